/- THE ABSTRACT MACHINE: an element that is moved out of a row. -/
import Derived.Test.YtlachfpabecaeaaQAmCall3
namespace AM
set_option linter.unusedVariables false
open Go
variable{U:dh}{E:Env U}{pm:Pm}
variable{F F':Nat->Prop}{kv:Key->Value}{fp:Key->List Nat}{σ:aa U}{a:Act}{w w':World}{bad:Key->Bool}
theorem yE{α:Type}{f g:α->List Nat}:∀{l:List α},(∀x∈l,(f x).Sublist (g x))->(l.flatMap f).Sublist (l.flatMap g)
 |[],_=>xj _
 |x::l,h=>by
  rw[ln,ln]
  exact List.Sublist.append (h x e_) (yE fun y hy=>h y (c9 _ hy))
theorem C'{τ:U.Ty}{xs:List (U.T τ)}{n:Nat}(hn:n<xs.length*U.wd τ):∃i x j c,n=i*U.wd τ+j/\j<U.wd τ/\i<xs.length/\xs[i]? =some x/\(U.enc τ x)[j]? =some c:=by
 have hw:=U.c_ τ
 have hi:n/U.wd τ<xs.length:=(Nat.div_lt_iff_lt_mul hw).2 hn
 have hj:n%U.wd τ<U.wd τ:=Nat.mod_lt _ hw
 refine⟨n/U.wd τ,xs[n/U.wd τ],n%U.wd τ,(U.enc τ xs[n/U.wd τ])[n%U.wd τ]'(by rw[U.aM];exact hj),?_,hj,hi,cE hi,cE _⟩
 rw[xh];exact(Nat.div_add_mod n _).symm
theorem ba.part{x:eT U}{v:Value}{l:List Nat}(h:ba E w F true x v l):aW E w F (fun _=>false) x v l:=by
 rcases h with h|⟨b,cap,cur,vs,bT,rfl,hb,hc,hm,hs,hv,hr,rfl⟩
 ·exact .inl h
 ·refine .inr ⟨b,cap,cur,vs,bT,rfl,hb,hc,hm,hs,fun n hn=>⟨hv n hn,?_⟩,fun i y j c _ hy hj=>hr i y j c hy hj,fun i j hi _=>Bool.noConfusion hi,rfl⟩
  obtain⟨i,y,j,c,rfl,_,_,hy,hj⟩:=C' hn
  exact(hr i y j c hy hj).bx
theorem wo{i i' j j' wd:Nat}(hj:j<wd)(gY:j'<wd)(h:i*wd+j=i'*wd+j'):i=i'/\j=j':=by
 have h1:(i*wd+j)/wd=i:=by rw[xh,Nat.mul_add_div (by omega)];simp[FU hj]
 have h2:(i'*wd+j')/wd=i':=by rw[xh,Nat.mul_add_div (by omega)];simp[FU gY]
 have:i=i':=by rw[<-h1,<-h2,h]
 subst this
 exact⟨rfl,by omega⟩
theorem HV{s n N:Nat}(h:s+n<=N):(List.range' s n).Sublist (List.range' 0 N):=by
 have e1:List.range' 0 s++List.range' (0+s) (N-s)=List.range' 0 (s+(N-s)):=List.range'_append_1
 have e2:List.range' s n++List.range' (s+n) (N-s-n)=List.range' s (n+(N-s-n)):=List.range'_append_1
 rw[show n+(N-s-n)=N-s by omega] at e2
 rw[ke,<-e2,show s+(N-s)=N by omega] at e1
 rw[<-e1]
 exact(GS _ _).trans (GU _ _)
theorem aW.out{dead:Nat->Bool}{x:eT U}{v:Value}{l:List Nat}(h:aW E w F dead x v l)(eH:l.Nodup){i off n:Nat}(hi:i<x.xs.length)(vC:dead i=false)(hle:off+n<=U.wd x.τ):
  ∃(b cap:Nat)(us:List Value)(gl:List (List Nat))(l':List Nat),v=.slice (some ⟨b,0,none⟩) x.xs.length cap/\us.length=n/\gl.length=n/\w.rangeAt b (i*U.wd x.τ+off) us/\
   (∀(j:Nat)(c:U.C),(((U.enc x.τ (x.xs.getD i (U.bn x.τ))).drop off).take n)[j]? =some c->Rp E w F true c (us.getD j undef) (gl.getD j []))/\
   aW E w F (fun j=>Nat.beq j i||dead j) x v l'/\(gl.flatten++l').Nodup/\∀b∈gl.flatten++l',b∈l:=by
 rcases h with⟨h0,_⟩|⟨b,cap,cur,vs,bT,rfl,hb,hc,hm,hs,hv,hr,dq,rfl⟩
 ·rw[h0] at hi;simp at hi
 have iS:=bg (d:=U.bn x.τ) hi
 have fD:∀j,j<U.wd x.τ->i*U.wd x.τ+j<x.xs.length*U.wd x.τ:=fun j hj=>
  bw iS (c:=(U.enc x.τ (x.xs.getD i (U.bn x.τ)))[j]'(by rw[U.aM];exact hj)) (cE _)
 rw[fU] at eH
 obtain⟨xL,zQ⟩:=eH
 let cQ:Nat->List Nat:=fun m=>if i*U.wd x.τ<=m/\m<i*U.wd x.τ+U.wd x.τ then[] else bT m
 have gZ:∀m,i*U.wd x.τ<=m/\m<i*U.wd x.τ+U.wd x.τ->cQ m=[]:=fun m hm=>if_pos hm
 have uF:∀m,¬(i*U.wd x.τ<=m/\m<i*U.wd x.τ+U.wd x.τ)->cQ m=bT m:=fun m hm=>if_neg hm
 have eg:((List.range (x.xs.length*U.wd x.τ)).flatMap cQ).Sublist ((List.range (x.xs.length*U.wd x.τ)).flatMap bT):=yE fun m _=>by
  simp only[cQ];split
  ·exact List.nil_sublist _
  ·exact xj _
 have iU:∀j,off+j<U.wd x.τ->∀b',b'∈bT (i*U.wd x.τ+(off+j))->b'∈(List.range (x.xs.length*U.wd x.τ)).flatMap bT:=fun j hj b' aj=>eY.2 ⟨_,hU.2 (fD _ hj),aj⟩
 have uC:((List.range n).map fun j=>bT (i*U.wd x.τ+(off+j))).flatten=(List.range n).flatMap fun j=>bT (i*U.wd x.τ+(off+j)):=by rw[r_]
 have EY:∀m m',m<x.xs.length*U.wd x.τ->m'<x.xs.length*U.wd x.τ->m≠m'->∀b',b'∈bT m->b'∉bT m':=fun m m' hm jQ a_ b' aj=>tI zQ (hU.2 hm) (hU.2 jQ) a_ aj
 refine⟨b,cap,(List.range n).map fun j=>vs (i*U.wd x.τ+(off+j)),(List.range n).map fun j=>bT (i*U.wd x.τ+(off+j)),b::(List.range (x.xs.length*U.wd x.τ)).flatMap cQ,rfl,by simp,by simp,fun j u hu=> ?_,fun j c hj=> ?_,?_,?_,?_⟩
 ·rw[eC] at hu
  by_cases Ab:j<n
  ·rw[ri Ab] at hu
   simp only[mP,bM] at hu
   rw[cell_of_row w b _ cur _ (0,0) hb,<-hu,show i*U.wd x.τ+off+j=i*U.wd x.τ+(off+j) by omega]
   exact(hv _ (fD _ (by omega))).1
  ·rw[eD (by simp;omega)] at hu;cases hu
 ·have Ab:j<n:=by
   rw[eP] at hj
   split at hj
   ·assumption
   ·cases hj
  rw[eP,if_pos Ab,mQ] at hj
  have:=hr i _ (off+j) c vC iS hj
  rw[cI,eC,ri Ab,cI,eC,ri Ab]
  exact this
 ·refine .inr ⟨b,cap,cur,vs,cQ,rfl,hb,hc,hm,hs,hv,fun k y j c hk hy hj=> ?_,fun k j hk hj=> ?_,rfl⟩
  ·simp only[vr] at hk
   have EM:k≠i:=fun e=>by subst e;simp at hk
   have sR:j<U.wd x.τ:=by
    rw[<-U.aM x.τ y]
    rcases eW j (U.enc x.τ y).length with h|h
    ·exact h
    ·rw[eD h] at hj;cases hj
   rw[uF _ (fun eU=>EM (wo sR (show k*U.wd x.τ+j-i*U.wd x.τ<U.wd x.τ by omega) (by omega)).1)]
   exact hr k y j c hk.2 hy hj
  ·by_cases EM:k=i
   ·subst EM
    exact gZ _ ⟨by omega,by omega⟩
   ·rw[uF _ (fun eU=>EM (wo hj (show k*U.wd x.τ+j-i*U.wd x.τ<U.wd x.τ by omega) (by omega)).1)]
    refine dq k j ?_ hj
    rw[qo] at hk
    exact hk.resolve_left (fun e=>EM (by simpa using e))
 ·rw[uC,fW]
  refine⟨?_,fU.2 ⟨fun aj=>xL (eg.subset aj),eg.nodup zQ⟩,fun b1 gE b2 gT he=> ?_⟩
  ·have BP:((List.range n).map fun j=>i*U.wd x.τ+(off+j)).Sublist (List.range (x.xs.length*U.wd x.τ)):=by
    have e1:(List.range n).map (fun j=>i*U.wd x.τ+(off+j))=List.range' (i*U.wd x.τ+off) n:=by
     rw[List.range'_eq_map_range]
     exact th fun j _=>by omega
    rw[e1,List.range_eq_range']
    have cp:=fD (U.wd x.τ-1) (by have:=U.c_ x.τ;omega)
    exact HV (by have:=U.c_ x.τ;omega)
   have:((List.range n).flatMap fun j=>bT (i*U.wd x.τ+(off+j)))=((List.range n).map fun j=>i*U.wd x.τ+(off+j)).flatMap bT:=by rw[List.flatMap_map]
   rw[this]
   have Pw:∀{l1 l2:List Nat},l1.Sublist l2->(l1.flatMap bT).Sublist (l2.flatMap bT):=by
    intro l1 l2 hh
    induction hh with
    |slnil=>exact xj _
    |cons y _ ih=>rw[ln];exact ih.trans (GU _ _)
    |cons_cons y _ ih=>rw[ln,ln];exact List.Sublist.append (xj _) ih
   exact(Pw BP).nodup zQ
  ·subst he
   obtain⟨j,hj,gE⟩:=eY.1 gE
   rw[hU] at hj
   rcases dQ.1 gT with rfl|gT
   ·exact xL (iU j (by omega) _ gE)
   ·obtain⟨m,jQ,gT⟩:=eY.1 gT
    rw[hU] at jQ
    by_cases eU:i*U.wd x.τ<=m/\m<i*U.wd x.τ+U.wd x.τ
    ·rw[gZ m eU] at gT;cases gT
    ·rw[uF m eU] at gT
     exact EY _ m (fD _ (by omega)) jQ (fun e=>eU (by omega)) b1 gE gT
 ·intro b' aj
  rcases cZ.1 aj with aj|aj
  ·rw[uC] at aj
   obtain⟨j,hj,aj⟩:=eY.1 aj
   rw[hU] at hj
   exact c9 _ (iU j (by omega) _ aj)
  ·rcases dQ.1 aj with rfl|aj
   ·exact e_
   ·exact c9 _ (eg.subset aj)
theorem aC.split(h:aC E pm F kv fp σ a w){o:Oper}(hd:∀d,o.dst=some d->d<σ.n)(D:bm U)(k:Key)(e0 e:b9 U)(eL:σ.aq k=some e0)(sv:SV U)(ps:List Prop)(v:Value)(l':List Nat)
  (rJ:(D.map (·.1)).Nodup)
  (eK:∀s∈D,¬Names σ (o.dst.getD 1000000,s.1)) (kW:Names σ k)
  (mg:∀kv' fp' bad,(∀s∈D,kv' (o.dst.getD 1000000,s.1)=s.2.2.1)->RS E w F kv' fp' bad sv v)
  (hD:∀s∈D,∀kv fp bad,gO E w F kv fp bad s.2.1 s.2.2.1 s.2.2.2)
  (hE:∀kv' fp' bad,gO E w F kv' fp' bad e (kv k) l')
  (eH:(D.bl++l').Nodup) (eU:∀b∈D.bl++l',b∈fp k):
  ∃kv fp,aC E pm F kv fp (AM.apply o ⟨some sv,D.es,[],[(k,e)],ps⟩ σ) (a.put o.dst v) w:=by
 generalize hr:(⟨some sv,D.es,[],[(k,e)],ps⟩:aw U)=r
 have cP:∀k',k'∈aQ o r↔∃s∈D,k'=(o.dst.getD 1000000,s.1):=by
  intro k'
  rw[<-hr]
  simp only[aQ,bm.es,ez]
  constructor
  ·rintro⟨p,⟨s,hs,rfl⟩,rfl⟩;exact⟨s,hs,rfl⟩
  ·rintro⟨s,hs,rfl⟩;exact⟨_,⟨s,hs,rfl⟩,rfl⟩
 have cX:cF r=[k]:=by rw[<-hr];rfl
 have kE:r.dn=[]:=by rw[<-hr]
 have uB:k∉aQ o r:=fun hk=>by
  obtain⟨s,hs,rfl⟩:=(cP k).1 hk
  exact eK s hs kW
 have cL:∀k',k'∉aQ o r->D.lg (o.dst.getD 1000000) kv k'=kv k'/\D.kJ (o.dst.getD 1000000) (aO fp k l') k'=aO fp k l' k':=by
  intro k' aG
  exact bm.other (fun t ht e=>aG ((cP k').2 ⟨t,ht,e⟩)) kv (aO fp k l')
 have w3:∀s∈D,D.lg (o.dst.getD 1000000) kv (o.dst.getD 1000000,s.1)=s.2.2.1/\D.kJ (o.dst.getD 1000000) (aO fp k l') (o.dst.getD 1000000,s.1)=s.2.2.2:=fun s hs=>⟨bm.jI rJ hs,bm.iI rJ hs⟩
 rw[fW] at eH
 obtain⟨uu,wN,wM⟩:=eH
 have hm:∀b∈fp k,¬F b/\(pm.W b\/pm.w0.heap.size<=b)/\b<w.heap.size:=fun b hb=>h.bC k e0 b eL hb
 refine⟨D.lg (o.dst.getD 1000000) kv,D.kJ (o.dst.getD 1000000) (aO fp k l'),?_⟩
 refine h.apply (F':=F) (w':=w) o r v hd ?_ (fun k' aG=>(cL k' aG).1) ?_ ?_ (fun b hb=>⟨hb,rfl⟩) (fun _ _ _ _ _ _ _ _=>rfl) ?_ ?_ ?_ h.hJ h.hH h.upto (nl _)
 ·intro Q_ zz
  rw[<-hr] at zz
  simp only[bM] at zz
  subst zz
  exact mg _ _ _ fun s hs=>(w3 s hs).1
 ·intro k' h1 h2
  rw[(cL k' h1).2]
  rw[cX] at h2
  exact la (by simpa using h2)
 ·intro k' aG
  obtain⟨s,hs,rfl⟩:=(cP k').1 aG
  exact eK s hs
 ·rintro k' e' (⟨j,rfl,hj⟩|aG)
  ·rw[<-hr] at hj
   simp only[bm.es,ez] at hj
   obtain⟨s,hs,hj⟩:=hj
   obtain⟨rfl,rfl⟩:=Prod.mk.inj hj
   rw[(w3 s hs).1,(w3 s hs).2]
   exact⟨hD s hs _ _ _,bm.j7 uu hs,fun b hb=>hm b (eU b (fy _ (bm.fj.2 ⟨s,hs,hb⟩)))⟩
  ·rw[<-hr] at aG
   simp only[gj,eX] at aG
   obtain⟨rfl,rfl⟩:=aG
   rw[(cL k' uB).1,(cL k' uB).2,gV]
   exact⟨hE _ _ _,wN,fun b hb=>hm b (eU b (eZ _ hb))⟩
 ·intro k' e' b _ _ _ he hb;exact(h.bC k' e' b he hb).1
 ·intro k1 k2 b a_ kF ej hb
  rw[cX,kE] at ej
  rw[cX] at kF
  have key:∀k',(k'∈aQ o r\/k'∈[k])->∀b∈D.kJ (o.dst.getD 1000000) (aO fp k l') k',b∈fp k/\((∃s∈D,k'=(o.dst.getD 1000000,s.1)/\b∈s.2.2.2)\/(k'=k/\b∈l')):=by
   intro k' aG b hb
   rcases aG with aG|aG
   ·obtain⟨s,hs,rfl⟩:=(cP k').1 aG
    rw[(w3 s hs).2] at hb
    exact⟨eU b (fy _ (bm.fj.2 ⟨s,hs,hb⟩)),.inl ⟨s,hs,rfl,hb⟩⟩
   ·have:=gj.1 aG
    subst this
    rw[(cL k' uB).2,gV] at hb
    exact⟨eU b (eZ _ hb),.inr ⟨rfl,hb⟩⟩
  obtain⟨g1,g2⟩:=key k1 kF b hb
  intro aj
  rcases ej with ej|ej|⟨_,ej⟩
  ·obtain⟨_,g4⟩:=key k2 (.inl ej) b aj
   rcases g2 with⟨s,hs,rfl,vB⟩|⟨rfl,sV⟩
   ·rcases g4 with⟨s',cO,rfl,li⟩|⟨rfl,nd⟩
    ·exact bm.gg uu hs cO (fun e=>a_ (by rw[e])) vB li
    ·exact wM b (bm.fj.2 ⟨s,hs,vB⟩) b nd rfl
   ·rcases g4 with⟨s',cO,rfl,li⟩|⟨rfl,nd⟩
    ·exact wM b (bm.fj.2 ⟨s',cO,li⟩) b sV rfl
    ·exact a_ rfl
  ·obtain⟨_,g4⟩:=key k2 (.inr ej) b aj
   rcases g2 with⟨s,hs,rfl,vB⟩|⟨rfl,sV⟩
   ·rcases g4 with⟨s',cO,rfl,li⟩|⟨rfl,nd⟩
    ·exact bm.gg uu hs cO (fun e=>a_ (by rw[e])) vB li
    ·exact wM b (bm.fj.2 ⟨s,hs,vB⟩) b nd rfl
   ·rcases g4 with⟨s',cO,rfl,li⟩|⟨rfl,nd⟩
    ·exact wM b (bm.fj.2 ⟨s',cO,li⟩) b sV rfl
    ·exact a_ rfl
  ·by_cases Aa:k2∈aQ o r
   ·obtain⟨_,g4⟩:=key k2 (.inl Aa) b aj
    rcases g2 with⟨s,hs,rfl,vB⟩|⟨rfl,sV⟩
    ·rcases g4 with⟨s',cO,rfl,li⟩|⟨rfl,nd⟩
     ·exact bm.gg uu hs cO (fun e=>a_ (by rw[e])) vB li
     ·exact wM b (bm.fj.2 ⟨s,hs,vB⟩) b nd rfl
    ·rcases g4 with⟨s',cO,rfl,li⟩|⟨rfl,nd⟩
     ·exact wM b (bm.fj.2 ⟨s',cO,li⟩) b sV rfl
     ·exact a_ rfl
   ·by_cases wQ:k2=k
    ·obtain⟨_,g4⟩:=key k2 (.inr (by simp[wQ])) b aj
     rcases g2 with⟨s,hs,rfl,vB⟩|⟨rfl,sV⟩
     ·rcases g4 with⟨s',cO,rfl,li⟩|⟨rfl,nd⟩
      ·exact Aa ((cP _).2 ⟨s',cO,rfl⟩)
      ·exact wM b (bm.fj.2 ⟨s,hs,vB⟩) b nd rfl
     ·exact a_ wQ.symm
    ·rw[(cL k2 Aa).2,la wQ] at aj
     obtain⟨e2,g_⟩:=ef.1 ej
     exact h.apart k k2 e0 e2 b (Ne.symm wQ) eL g_ g1 aj
theorem Ig(h:aC E pm F kv fp σ a w){o:Oper}{t:TypeId}{x:Operand}{sx:SV U}{y:AC U}{n:Nat}{g:Bool}{ks:List Key}{r:aw U}(ho:o.op=.load t x)
  (hx:RS E w F kv fp (av σ) sx (a.eval x)) (hc:iA sx=some y) (hs:E.size t=some n) (hg:E.isAgg t=some g)
  (hr:mb (restrict σ.aq ks) g n y=some r) (hp:∀p∈r.pre,p):∃sv ps,r=⟨some sv,[],[],[],ps⟩/\aB E F kv fp (av σ) a w o sv:=by
 have hx:=de hx hc
 unfold mb at hr
 split at hr
 rotate_left
 ·cases hr
 rename_i k i wd off
 split at hr
 rotate_left
 ·cases hr
 rename_i x0 he
 have bf:=cJ he
 rw[bY] at hr
 split at hr
 rotate_left
 ·cases hr
 rename_i hb
 simp only[dR] at hb
 obtain⟨⟨qV,hle⟩,iF⟩:=hb
 have hle:=pz hle
 have iF:=en iF
 subst iF
 cases hr
 refine⟨_,_,rfl,?_⟩
 have hi:i<x0.xs.length:=hp _ (by simp[aw.aD])
 have ei:ba E w F false x0 (kv k) (fp k):=h.aJ k _ bf
 obtain⟨bb,oo,nn,cc,eG,hv⟩:=ax hx (by simp[ck])
 simp only[eR] at eG
 rcases ei with⟨h0,_⟩|⟨b,cap,cur,vs,bT,h1,h2,h3,h4,h5,h6,h7,_⟩
 ·rw[h0] at hi;simp at hi
 rw[h1] at eG
 simp only[Value.slice.injEq,bM,Addr.mk.injEq,and_true] at eG
 obtain⟨⟨rfl,rfl⟩,_,_⟩:=eG
 rw[ke] at hv
 have iS:=bg (d:=U.bn x0.τ) hi
 have uN:∀j,j<U.wd x0.τ->∃c,(U.enc x0.τ (x0.xs.getD i (U.bn x0.τ)))[j]? =some c:=fun j hj=>by
  have gY:j<(U.enc x0.τ (x0.xs.getD i (U.bn x0.τ))).length:=by rw[U.aM];exact hj
  exact⟨_,cE gY⟩
 have gA:∀j u,((List.range n).map fun j=>vs (i*U.wd x0.τ+(off+j)))[j]? =some u->j<n/\u=vs (i*U.wd x0.τ+(off+j)):=fun j u hu=>by
  rw[eC] at hu
  by_cases hj:j<n
  ·rw[ri hj] at hu
   exact⟨hj,by simpa using hu.symm⟩
  ·rw[eD (by simp;omega)] at hu;cases hu
 obtain⟨v,zr,zq⟩:=v9 (us:=(List.range n).map fun j=>vs (i*U.wd x0.τ+(off+j))) (b:=bb) (off:=i*U.wd x0.τ+off) hs hg qV (by simp) (fun j u hu=>by
  obtain⟨hj,rfl⟩:=gA j u hu
  obtain⟨c,mO⟩:=uN (off+j) (by omega)
  rw[cell_of_row w bb _ cur _ (0,0) h2,<-h6 _ (bw iS mO)]
  congr 1;omega)
 refine⟨v,by unfold execOp;simp only[ho,hv];exact cd zr,_,?_,zq⟩
 refine vh (by simp[U.aM];omega) fun j y u hy hu=> ?_
 obtain⟨hj,rfl⟩:=gA j u hu
 rw[eC] at hy
 obtain⟨c,mO⟩:=uN (off+j) (by omega)
 have rK:(((U.enc x0.τ (x0.xs.getD i (U.bn x0.τ))).drop off).take n)[j]? =some c:=by rw[eP,if_pos hj,mQ];exact mO
 rw[rK] at hy
 simp only[mP,bM] at hy
 subst hy
 have cK:=h7 i _ (off+j) c iS mO
 have h0:bT (i*U.wd x0.τ+(off+j))=[]:=by
  generalize bT (i*U.wd x0.τ+(off+j))=l at cK
  generalize vs (i*U.wd x0.τ+(off+j))=u at cK
  cases cK<;>rfl
 rw[h0] at cK
 exact⟨cK.bx,.inr cK⟩
theorem Ia(h:aC E pm F kv fp σ a w){o:Oper}(hd:∀d,o.dst=some d->d<σ.n){t:TypeId}{x:Operand}{sx:SV U}{y:AC U}{n:Nat}{g:Bool}{ks:List Key}{r:aw U}(ho:o.op=.load t x)
  (hx:RS E w F kv fp (av σ) sx (a.eval x)) (hc:iA sx=some y) (gi:∀k∈y.keys,Names σ k) (hs:E.size t=some n) (hg:E.isAgg t=some g)
  (hr:qI (restrict σ.aq ks) (o.dst.getD 1000000) g n y=some r) (hp:∀p∈r.pre,p) (eK:∀k∈aQ o r,¬Names σ k)
  {next:Act->World->Prop} {Q:Exit->Act->World->Prop} (hn:∀F kv fp a' w',aC E pm F kv fp (AM.apply o r σ) a' w'->next a' w'):o.wp E.P a w next Q:=by
 have hx:=de hx hc
 unfold qI at hr
 split at hr
 rotate_left
 ·cases hr
 rename_i k i wd off
 split at hr
 rotate_left
 ·cases hr
 rename_i x0 dead he
 have bf:=cJ he
 rw[bY] at hr
 split at hr
 rotate_left
 ·cases hr
 rename_i hb
 simp only[dR] at hb
 obtain⟨⟨qV,hle⟩,iF⟩:=hb
 have hle:=pz hle
 have iF:=en iF
 subst iF
 simp only at hr
 have qO:i<x0.xs.length/\dead i=false:=by
  rw[bY] at hr
  split at hr
  ·cases hr;exact⟨hp _ (by simp[aw.aD]),hp _ (by simp[aw.aD])⟩
  ·rw[bY] at hr
   split at hr
   ·cases hr;exact⟨hp _ (by simp[aw.aD]),hp _ (by simp[aw.aD])⟩
   rw[bY] at hr
   split at hr
   ·cases hr;exact⟨hp _ (by simp),hp _ (by simp)⟩
   ·cases hr
 obtain⟨hi,vC⟩:=qO
 have ei:aW E w F dead x0 (kv k) (fp k):=h.aJ k _ bf
 obtain⟨b,cap,us,gl,l',h1,h2,h3,h4,h5,h6,h7,h8⟩:=ei.out (h.nodup k _ bf) hi vC hle
 obtain⟨bb,oo,nn,cc,eG,hv⟩:=ax hx (by simp[ck])
 simp only[eR] at eG
 rw[h1] at eG
 simp only[Value.slice.injEq,bM,Addr.mk.injEq,and_true] at eG
 obtain⟨⟨rfl,rfl⟩,_,_⟩:=eG
 rw[ke] at hv
 obtain⟨v,zr,zq⟩:=v9 hs hg qV h2 h4
 have cu:(execOp a.eval o).run E.P w=.ok (.value v) w:=by unfold execOp;simp only[ho,hv];exact cd zr
 have cp:(((U.enc x0.τ (x0.xs.getD i (U.bn x0.τ))).drop off).take n).length=n:=by simp[U.aM];omega
 rw[bY] at hr
 split at hr
 ·rename_i oe
  cases hr
  refine gq cu (hn F kv fp _ _ (h.val o _ _ v hd (fun sv mg=> ?_)))
  cases mg
  refine⟨us,?_,zq⟩
  exact qD (by rw[h2,cp]) fun j c hj=>by
   obtain⟨u,rfl⟩:=vZ oe j c hj
   exact(h5 j _ hj).oa
 ·rw[bY] at hr
  split at hr
  ·cases hr
   refine gq cu (hn F kv fp _ _ (h.val o _ _ v hd (fun sv mg=> ?_)))
   cases mg
   refine⟨us,vh (by rw[wk,h2,cp]) (fun j' y' u hy hu=> ?_),zq⟩
   obtain⟨c,mO,rK⟩:=wl hy
   have cK:=h5 j' c mO
   have ga:us.getD j' undef=u:=by rw[cI,hu];rfl
   rw[ga] at cK
   rcases rK with⟨v',rfl,rfl⟩|⟨nj,xs',rfl,rfl⟩
   ·obtain⟨_,e2,e3⟩:=cK.dy
    subst e2
    exact⟨cK.bx,.inr (.lit _ _ e3)⟩
   ·refine⟨cK.bx,.inr ?_⟩
    have cq:bb∈fp k:=by
     rcases ei with⟨h0,_⟩|⟨b',QC,cur',jh,cQ,g1,_,_,_,_,_,_,_,g9⟩
     ·rw[h0] at hi;simp at hi
     ·rw[h1] at g1
      simp only[Value.slice.injEq,bM,Addr.mk.injEq,and_true] at g1
      rw[g9,<-g1.1];simp
    refine⟨bb,0,_,cap,u,h1,.inr cq,?_,rfl⟩
    rw[ke,<-tf]
    exact h4 j' u hu
  rw[bY] at hr
  split at hr
  rotate_left
  ·cases hr
  rename_i gD
  have nw:=yf hr
  obtain⟨D,d1,d2,d3,d4⟩:=pJ (dst:=o.dst.getD 1000000) (base:=0) (vs:=us) (fl:=gl) (h2.trans cp.symm) (h3.trans cp.symm) h5
  have xE:=h.split (o:=o) hd D k _ (.part x0 (fun j=>Nat.beq j i||dead j)) bf (.v ⟨g,(ai (o.dst.getD 1000000) true 0 (((U.enc x0.τ (x0.xs.getD i (U.bn x0.τ))).drop off).take n)).1⟩) [i<x0.xs.length,dead i=false] v l' ?_ ?_ (gi k (by simp[AC.keys])) ?_ d2 ?_ (by rw[d3];exact h7) (by rw[d3];exact h8)
  ·obtain⟨kv',fp',eI⟩:=xE
   refine gq cu (hn F kv' fp' _ _ ?_)
   rw[<-nw,d1];exact eI
  ·have:=DR.1 gD
   rw[d1] at this
   simpa[bm.es,Function.comp_def] using this
  ·intro s hs
   refine eK _ ?_
   rw[<-nw]
   simp only[aQ,d1,bm.es,ez]
   exact⟨_,⟨s,hs,rfl⟩,rfl⟩
  ·intro kv' fp' bad hk
   exact⟨us,d4 kv' fp' bad hk,zq⟩
  ·intro kv' fp' bad
   exact h6
theorem Dk(h:aC E pm F kv fp σ a w){ks:List Key}{y:AC U}{v:Value}{b:eT U}(hr:partOf (restrict σ.aq ks) y=some b)(hx:RD E w F kv fp (av σ) y v):
  ∃k dead,y=.ref k []/\v=kv k/\aW E w F dead b v (fp k):=by
 unfold partOf at hr
 split at hr
 ·rename_i k
  split at hr
  ·rename_i x dead he
   cases hr
   have h1:v=kv k:=ax hx rfl
   subst h1
   exact⟨k,dead,rfl,rfl,h.aJ k _ (cJ he)⟩
  ·cases hr
 ·cases hr
theorem aW.slice{dead:Nat->Bool}{x:eT U}{v:Value}{l:List Nat}(h:aW E w F dead x v l):∃ad c,v=.slice ad x.xs.length c/\x.xs.length<=maxLen:=by
 rcases h with⟨h0,⟨ad,rfl⟩,_⟩|⟨b,cap,cur,vs,bT,rfl,_,hc,hm,_⟩
 ·exact⟨ad,0,by simp[h0],by simp[h0]⟩
 ·exact⟨_,_,rfl,tg hc hm⟩
theorem Io(h:aC E pm F kv fp σ a w){o:Oper}{t:TypeId}{x y:Operand}{sx sy:SV U}{k:Key}{ks:List Key}{kd:IntKind}{n:Int}{m:Nat}{b:eT U}(ho:o.op=.indexAddr t x y)
  (hx:RS E w F kv fp (av σ) sx (a.eval x)) (hc:iA sx=some (.ref k [])) (hy:RS E w F kv fp (av σ) sy (a.eval y)) (hl:cr sy=some (.int kd n)) (hm:(E.elem t).bind E.size=some m)
  (ha:partOf (restrict σ.aq ks) (.ref k [])=some b) (hw:m=U.wd b.τ)
  (h1:0<=n) (h2:n.toNat<b.xs.length):aB E F kv fp (av σ) a w o (one (.dt k [] n.toNat (U.wd b.τ) 0)):=by
 obtain⟨e,i,hu,hi,hs⟩:=fi hm
 have h3:=fq hy hl
 have lz:=de hx hc
 obtain⟨k',dead,hk,ui,ei⟩:=Dk h ha lz
 cases hk
 rcases ei with⟨h0,_⟩|⟨b',cap,cur,vs,bT,h4,_⟩
 ·rw[h0] at h2;simp at h2
 ·refine⟨.pointer (some ⟨b',0+n.toNat*U.wd b.τ,none⟩),?_,b8 ⟨⟨rfl,trivial⟩,.inr ⟨b',0,b.xs.length,cap,?_,by simp⟩⟩⟩
  ·unfold execOp;simp only[ho,h3,h4]
   rw[<-hw,<-hs]
   exact cd (yV hu hi h1 h2)
  ·simp only[eR];rw[<-ui,h4]
end AM
