/- THE ABSTRACT MACHINE: an element that is moved out of a row. -/
import Derived.Test.YtlachfpabecaeaaQAmCall3
namespace AM
set_option linter.unusedVariables false
open Go
variable{U:dw}{E:Env U}{pm:Pm}
variable{F F':Nat->Prop}{kv:Key->Value}{fp:Key->List Nat}{σ:aa U}{a:Act}{w w':World}{bad:Key->Bool}
theorem zN{α:Type}{f g:α->List Nat}:∀{l:List α},(∀x∈l,(f x).Sublist (g x))->(l.flatMap f).Sublist (l.flatMap g)
 |[],_=>yu _
 |x::l,h=>by
  rw[mf,mf]
  exact List.Sublist.append (h x gp) (zN fun y hy=>h y (d_ _ hy))
theorem Dp{τ:U.Ty}{xs:List (U.T τ)}{n:Nat}(hn:n<xs.length*U.wd τ):∃i x j c,n=i*U.wd τ+j/\j<U.wd τ/\i<xs.length/\xs[i]? =some x/\(U.enc τ x)[j]? =some c:=by
 have hw:=U.dq τ
 have hi:n/U.wd τ<xs.length:=(Nat.div_lt_iff_lt_mul hw).2 hn
 have hj:n%U.wd τ<U.wd τ:=Nat.mod_lt _ hw
 refine⟨n/U.wd τ,xs[n/U.wd τ],n%U.wd τ,(U.enc τ xs[n/U.wd τ])[n%U.wd τ]'(by rw[U.aK];exact hj),?_,hj,hi,cF hi,cF _⟩
 rw[yr];exact(Nat.div_add_mod n _).symm
theorem aZ.part{x:fx U}{v:Value}{l:List Nat}(h:aZ E w F true x v l):aU E w F (fun _=>false) x v l:=by
 rcases h with h|⟨b,cap,cur,vs,bM,rfl,hb,hc,hm,hs,hv,hr,rfl⟩
 ·exact .inl h
 ·refine .inr ⟨b,cap,cur,vs,bM,rfl,hb,hc,hm,hs,fun n hn=>⟨hv n hn,?_⟩,fun i y j c _ hy hj=>hr i y j c hy hj,fun i j hi _=>Bool.noConfusion hi,rfl⟩
  obtain⟨i,y,j,c,rfl,_,_,hy,hj⟩:=Dp hn
  exact(hr i y j c hy hj).bn
theorem xv{i i' j j' wd:Nat}(hj:j<wd)(ir:j'<wd)(h:i*wd+j=i'*wd+j'):i=i'/\j=j':=by
 have h1:(i*wd+j)/wd=i:=by rw[yr,Nat.mul_add_div (by omega)];simp[Gv hj]
 have h2:(i'*wd+j')/wd=i':=by rw[yr,Nat.mul_add_div (by omega)];simp[Gv ir]
 have:i=i':=by rw[<-h1,<-h2,h]
 subst this
 exact⟨rfl,by omega⟩
theorem Ik{s n N:Nat}(h:s+n<=N):(List.range' s n).Sublist (List.range' 0 N):=by
 have e1:List.range' 0 s++List.range' (0+s) (N-s)=List.range' 0 (s+(N-s)):=List.range'_append_1
 have e2:List.range' s n++List.range' (s+n) (N-s-n)=List.range' s (n+(N-s-n)):=List.range'_append_1
 rw[show n+(N-s-n)=N-s by omega] at e2
 rw[kO,<-e2,show s+(N-s)=N by omega] at e1
 rw[<-e1]
 exact(Hi _ _).trans (Hj _ _)
theorem aU.out{dead:Nat->Bool}{x:fx U}{v:Value}{l:List Nat}(h:aU E w F dead x v l)(fc:l.Nodup){i off n:Nat}(hi:i<x.xs.length)(wJ:dead i=false)(hle:off+n<=U.wd x.τ):
  ∃(b cap:Nat)(us:List Value)(gl:List (List Nat))(l':List Nat),v=.slice (some ⟨b,0,none⟩) x.xs.length cap/\us.length=n/\gl.length=n/\w.rangeAt b (i*U.wd x.τ+off) us/\
   (∀(j:Nat)(c:U.C),(((U.enc x.τ (x.xs.getD i (U.bj x.τ))).drop off).take n)[j]? =some c->Rp E w F true c (us.getD j undef) (gl.getD j []))/\
   aU E w F (fun j=>Nat.beq j i||dead j) x v l'/\(gl.flatten++l').Nodup/\∀b∈gl.flatten++l',b∈l:=by
 rcases h with⟨h0,_⟩|⟨b,cap,cur,vs,bM,rfl,hb,hc,hm,hs,hv,hr,dD,rfl⟩
 ·rw[h0] at hi;simp at hi
 have jt:=ba (d:=U.bj x.τ) hi
 have gf:∀j,j<U.wd x.τ->i*U.wd x.τ+j<x.xs.length*U.wd x.τ:=fun j hj=>
  bm jt (c:=(U.enc x.τ (x.xs.getD i (U.bj x.τ)))[j]'(by rw[U.aK];exact hj)) (cF _)
 rw[gx] at fc
 obtain⟨y3,A4⟩:=fc
 let df:Nat->List Nat:=fun m=>if i*U.wd x.τ<=m/\m<i*U.wd x.τ+U.wd x.τ then[] else bM m
 have iu:∀m,i*U.wd x.τ<=m/\m<i*U.wd x.τ+U.wd x.τ->df m=[]:=fun m hm=>if_pos hm
 have vN:∀m,¬(i*U.wd x.τ<=m/\m<i*U.wd x.τ+U.wd x.τ)->df m=bM m:=fun m hm=>if_neg hm
 have eE:((List.range (x.xs.length*U.wd x.τ)).flatMap df).Sublist ((List.range (x.xs.length*U.wd x.τ)).flatMap bM):=zN fun m _=>by
  simp only[df];split
  ·exact List.nil_sublist _
  ·exact yu _
 have jv:∀j,off+j<U.wd x.τ->∀b',b'∈bM (i*U.wd x.τ+(off+j))->b'∈(List.range (x.xs.length*U.wd x.τ)).flatMap bM:=fun j hj b' ap=>fC.2 ⟨_,iD.2 (gf _ hj),ap⟩
 have vK:((List.range n).map fun j=>bM (i*U.wd x.τ+(off+j))).flatten=(List.range n).flatMap fun j=>bM (i*U.wd x.τ+(off+j)):=by rw[tj]
 have Fg:∀m m',m<x.xs.length*U.wd x.τ->m'<x.xs.length*U.wd x.τ->m≠m'->∀b',b'∈bM m->b'∉bM m':=fun m m' hm lR aX b' ap=>uY A4 (iD.2 hm) (iD.2 lR) aX ap
 refine⟨b,cap,(List.range n).map fun j=>vs (i*U.wd x.τ+(off+j)),(List.range n).map fun j=>bM (i*U.wd x.τ+(off+j)),b::(List.range (x.xs.length*U.wd x.τ)).flatMap df,rfl,by simp,by simp,fun j u hu=> ?_,fun j c hj=> ?_,?_,?_,?_⟩
 ·rw[eW] at hu
  by_cases Bh:j<n
  ·rw[sB Bh] at hu
   simp only[nG,bH] at hu
   rw[cell_of_row w b _ cur _ (0,0) hb,<-hu,show i*U.wd x.τ+off+j=i*U.wd x.τ+(off+j) by omega]
   exact(hv _ (gf _ (by omega))).1
  ·rw[fb (by simp;omega)] at hu;cases hu
 ·have Bh:j<n:=by
   rw[fg] at hj
   split at hj
   ·assumption
   ·cases hj
  rw[fg,if_pos Bh,nH] at hj
  have:=hr i _ (off+j) c wJ jt hj
  rw[cB,eW,sB Bh,cB,eW,sB Bh]
  exact this
 ·refine .inr ⟨b,cap,cur,vs,df,rfl,hb,hc,hm,hs,hv,fun k y j c hk hy hj=> ?_,fun k j hk hj=> ?_,rfl⟩
  ·simp only[wD] at hk
   have E3:k≠i:=fun e=>by subst e;simp at hk
   have ua:j<U.wd x.τ:=by
    rw[<-U.aK x.τ y]
    rcases fA j (U.enc x.τ y).length with h|h
    ·exact h
    ·rw[fb h] at hj;cases hj
   rw[vN _ (fun fy=>E3 (xv ua (show k*U.wd x.τ+j-i*U.wd x.τ<U.wd x.τ by omega) (by omega)).1)]
   exact hr k y j c hk.2 hy hj
  ·by_cases E3:k=i
   ·subst E3
    exact iu _ ⟨by omega,by omega⟩
   ·rw[vN _ (fun fy=>E3 (xv hj (show k*U.wd x.τ+j-i*U.wd x.τ<U.wd x.τ by omega) (by omega)).1)]
    refine dD k j ?_ hj
    rw[qi] at hk
    exact hk.resolve_left (fun e=>E3 (by simpa using e))
 ·rw[vK,gz]
  refine⟨?_,gx.2 ⟨fun ap=>y3 (eE.subset ap),eE.nodup A4⟩,fun b1 hM b2 il he=> ?_⟩
  ·have B8:((List.range n).map fun j=>i*U.wd x.τ+(off+j)).Sublist (List.range (x.xs.length*U.wd x.τ)):=by
    have e1:(List.range n).map (fun j=>i*U.wd x.τ+(off+j))=List.range' (i*U.wd x.τ+off) n:=by
     rw[List.range'_eq_map_range]
     exact uE fun j _=>by omega
    rw[e1,List.range_eq_range']
    have ck:=gf (U.wd x.τ-1) (by have:=U.dq x.τ;omega)
    exact Ik (by have:=U.dq x.τ;omega)
   have:((List.range n).flatMap fun j=>bM (i*U.wd x.τ+(off+j)))=((List.range n).map fun j=>i*U.wd x.τ+(off+j)).flatMap bM:=by rw[List.flatMap_map]
   rw[this]
   have Og:∀{l1 l2:List Nat},l1.Sublist l2->(l1.flatMap bM).Sublist (l2.flatMap bM):=by
    intro l1 l2 hh
    induction hh with
    |slnil=>exact yu _
    |cons y _ ih=>rw[mf];exact ih.trans (Hj _ _)
    |cons_cons y _ ih=>rw[mf,mf];exact List.Sublist.append (yu _) ih
   exact(Og B8).nodup A4
  ·subst he
   obtain⟨j,hj,hM⟩:=fC.1 hM
   rw[iD] at hj
   rcases dJ.1 il with rfl|il
   ·exact y3 (jv j (by omega) _ hM)
   ·obtain⟨m,lR,il⟩:=fC.1 il
    rw[iD] at lR
    by_cases fy:i*U.wd x.τ<=m/\m<i*U.wd x.τ+U.wd x.τ
    ·rw[iu m fy] at il;cases il
    ·rw[vN m fy] at il
     exact Fg _ m (gf _ (by omega)) lR (fun e=>fy (by omega)) b1 hM il
 ·intro b' ap
  rcases cY.1 ap with ap|ap
  ·rw[vK] at ap
   obtain⟨j,hj,ap⟩:=fC.1 ap
   rw[iD] at hj
   exact d_ _ (jv j (by omega) _ ap)
  ·rcases dJ.1 ap with rfl|ap
   ·exact gp
   ·exact d_ _ (eE.subset ap)
theorem aE.split(h:aE E pm F kv fp σ a w){o:Oper}(hd:∀d,o.dst=some d->d<σ.n)(D:bi U)(k:Key)(e0 e:bZ U)(fm:σ.aw k=some e0)(sv:SV U)(ps:List Prop)(v:Value)(l':List Nat)
  (sU:(D.map (·.1)).Nodup)
  (fj:∀s∈D,¬Names σ (o.dst.getD 1000000,s.1)) (lT:Names σ k)
  (mX:∀kv' fp' bad,(∀s∈D,kv' (o.dst.getD 1000000,s.1)=s.2.2.1)->RS E w F kv' fp' bad sv v)
  (hD:∀s∈D,∀kv fp bad,ig E w F kv fp bad s.2.1 s.2.2.1 s.2.2.2)
  (hE:∀kv' fp' bad,ig E w F kv' fp' bad e (kv k) l')
  (fc:(D.bl++l').Nodup) (fy:∀b∈D.bl++l',b∈fp k):
  ∃kv fp,aE E pm F kv fp (AM.apply o ⟨some sv,D.es,[],[(k,e)],ps⟩ σ) (a.put o.dst v) w:=by
 generalize hr:(⟨some sv,D.es,[],[(k,e)],ps⟩:az U)=r
 have de:∀k',k'∈aM o r↔∃s∈D,k'=(o.dst.getD 1000000,s.1):=by
  intro k'
  rw[<-hr]
  simp only[aM,bi.es,eV]
  constructor
  ·rintro⟨p,⟨s,hs,rfl⟩,rfl⟩;exact⟨s,hs,rfl⟩
  ·rintro⟨s,hs,rfl⟩;exact⟨_,⟨s,hs,rfl⟩,rfl⟩
 have dn:cK r=[k]:=by rw[<-hr];rfl
 have lj:r.dB=[]:=by rw[<-hr]
 have vI:k∉aM o r:=fun hk=>by
  obtain⟨s,hs,rfl⟩:=(de k).1 hk
  exact fj s hs lT
 have cS:∀k',k'∉aM o r->D.l9 (o.dst.getD 1000000) kv k'=kv k'/\D.lq (o.dst.getD 1000000) (aL fp k l') k'=aL fp k l' k':=by
  intro k' aG
  exact bi.other (fun t ht e=>aG ((de k').2 ⟨t,ht,e⟩)) kv (aL fp k l')
 have yb:∀s∈D,D.l9 (o.dst.getD 1000000) kv (o.dst.getD 1000000,s.1)=s.2.2.1/\D.lq (o.dst.getD 1000000) (aL fp k l') (o.dst.getD 1000000,s.1)=s.2.2.2:=fun s hs=>⟨bi.kl sU hs,bi.jg sU hs⟩
 rw[gz] at fc
 obtain⟨vC,xT,xS⟩:=fc
 have hm:∀b∈fp k,¬F b/\(pm.W b\/pm.w0.heap.size<=b)/\b<w.heap.size:=fun b hb=>h.bt k e0 b fm hb
 refine⟨D.l9 (o.dst.getD 1000000) kv,D.lq (o.dst.getD 1000000) (aL fp k l'),?_⟩
 refine h.apply (F':=F) (w':=w) o r v hd ?_ (fun k' aG=>(cS k' aG).1) ?_ ?_ (fun b hb=>⟨hb,rfl⟩) (fun _ _ _ _ _ _ _ _=>rfl) ?_ ?_ ?_ h.iz h.iy h.upto (nC _)
 ·intro PN AL
  rw[<-hr] at AL
  simp only[bH] at AL
  subst AL
  exact mX _ _ _ fun s hs=>(yb s hs).1
 ·intro k' h1 h2
  rw[(cS k' h1).2]
  rw[dn] at h2
  exact l7 (by simpa using h2)
 ·intro k' aG
  obtain⟨s,hs,rfl⟩:=(de k').1 aG
  exact fj s hs
 ·rintro k' e' (⟨j,rfl,hj⟩|aG)
  ·rw[<-hr] at hj
   simp only[bi.es,eV] at hj
   obtain⟨s,hs,hj⟩:=hj
   obtain⟨rfl,rfl⟩:=Prod.mk.inj hj
   rw[(yb s hs).1,(yb s hs).2]
   exact⟨hD s hs _ _ _,bi.kJ vC hs,fun b hb=>hm b (fy b (fV _ (bi.fO.2 ⟨s,hs,hb⟩)))⟩
  ·rw[<-hr] at aG
   simp only[gn,fB] at aG
   obtain⟨rfl,rfl⟩:=aG
   rw[(cS k' vI).1,(cS k' vI).2,im]
   exact⟨hE _ _ _,xT,fun b hb=>hm b (fy b (fD _ hb))⟩
 ·intro k' e' b _ _ _ he hb;exact(h.bt k' e' b he hb).1
 ·intro k1 k2 b aX ll eH hb
  rw[dn,lj] at eH
  rw[dn] at ll
  have key:∀k',(k'∈aM o r\/k'∈[k])->∀b∈D.lq (o.dst.getD 1000000) (aL fp k l') k',b∈fp k/\((∃s∈D,k'=(o.dst.getD 1000000,s.1)/\b∈s.2.2.2)\/(k'=k/\b∈l')):=by
   intro k' aG b hb
   rcases aG with aG|aG
   ·obtain⟨s,hs,rfl⟩:=(de k').1 aG
    rw[(yb s hs).2] at hb
    exact⟨fy b (fV _ (bi.fO.2 ⟨s,hs,hb⟩)),.inl ⟨s,hs,rfl,hb⟩⟩
   ·have:=gn.1 aG
    subst this
    rw[(cS k' vI).2,im] at hb
    exact⟨fy b (fD _ hb),.inr ⟨rfl,hb⟩⟩
  obtain⟨g1,g2⟩:=key k1 ll b hb
  intro ap
  rcases eH with eH|eH|⟨_,eH⟩
  ·obtain⟨_,g4⟩:=key k2 (.inl eH) b ap
   rcases g2 with⟨s,hs,rfl,wI⟩|⟨rfl,ue⟩
   ·rcases g4 with⟨s',cZ,rfl,ma⟩|⟨rfl,nW⟩
    ·exact bi.gL vC hs cZ (fun e=>aX (by rw[e])) wI ma
    ·exact xS b (bi.fO.2 ⟨s,hs,wI⟩) b nW rfl
   ·rcases g4 with⟨s',cZ,rfl,ma⟩|⟨rfl,nW⟩
    ·exact xS b (bi.fO.2 ⟨s',cZ,ma⟩) b ue rfl
    ·exact aX rfl
  ·obtain⟨_,g4⟩:=key k2 (.inr eH) b ap
   rcases g2 with⟨s,hs,rfl,wI⟩|⟨rfl,ue⟩
   ·rcases g4 with⟨s',cZ,rfl,ma⟩|⟨rfl,nW⟩
    ·exact bi.gL vC hs cZ (fun e=>aX (by rw[e])) wI ma
    ·exact xS b (bi.fO.2 ⟨s,hs,wI⟩) b nW rfl
   ·rcases g4 with⟨s',cZ,rfl,ma⟩|⟨rfl,nW⟩
    ·exact xS b (bi.fO.2 ⟨s',cZ,ma⟩) b ue rfl
    ·exact aX rfl
  ·by_cases Bg:k2∈aM o r
   ·obtain⟨_,g4⟩:=key k2 (.inl Bg) b ap
    rcases g2 with⟨s,hs,rfl,wI⟩|⟨rfl,ue⟩
    ·rcases g4 with⟨s',cZ,rfl,ma⟩|⟨rfl,nW⟩
     ·exact bi.gL vC hs cZ (fun e=>aX (by rw[e])) wI ma
     ·exact xS b (bi.fO.2 ⟨s,hs,wI⟩) b nW rfl
    ·rcases g4 with⟨s',cZ,rfl,ma⟩|⟨rfl,nW⟩
     ·exact xS b (bi.fO.2 ⟨s',cZ,ma⟩) b ue rfl
     ·exact aX rfl
   ·by_cases xW:k2=k
    ·obtain⟨_,g4⟩:=key k2 (.inr (by simp[xW])) b ap
     rcases g2 with⟨s,hs,rfl,wI⟩|⟨rfl,ue⟩
     ·rcases g4 with⟨s',cZ,rfl,ma⟩|⟨rfl,nW⟩
      ·exact Bg ((de _).2 ⟨s',cZ,rfl⟩)
      ·exact xS b (bi.fO.2 ⟨s,hs,wI⟩) b nW rfl
     ·exact aX xW.symm
    ·rw[(cS k2 Bg).2,l7 xW] at ap
     obtain⟨e2,iw⟩:=eD.1 eH
     exact h.apart k k2 e0 e2 b (Ne.symm xW) fm iw g1 ap
theorem IH(h:aE E pm F kv fp σ a w){o:Oper}{t:TypeId}{x:Operand}{sx:SV U}{y:AC U}{n:Nat}{g:Bool}{ks:List Key}{r:az U}(ho:o.op=.load t x)
  (hx:RS E w F kv fp (ay σ) sx (a.eval x)) (hc:i_ sx=some y) (hs:E.size t=some n) (hg:E.isAgg t=some g)
  (hr:mT (restrict σ.aw ks) g n y=some r) (hp:∀p∈r.pre,p):∃sv ps,r=⟨some sv,[],[],[],ps⟩/\aB E F kv fp (ay σ) a w o sv:=by
 have hx:=du hx hc
 unfold mT at hr
 split at hr
 rotate_left
 ·cases hr
 rename_i k i wd off
 split at hr
 rotate_left
 ·cases hr
 rename_i x0 he
 have a_:=cQ he
 rw[bV] at hr
 split at hr
 rotate_left
 ·cases hr
 rename_i hb
 simp only[c9] at hb
 obtain⟨⟨sh,hle⟩,je⟩:=hb
 have hle:=qj hle
 have je:=eI je
 subst je
 cases hr
 refine⟨_,_,rfl,?_⟩
 have hi:i<x0.xs.length:=hp _ (by simp[az.aF])
 have eG:aZ E w F false x0 (kv k) (fp k):=h.aJ k _ a_
 obtain⟨bb,oo,nn,cc,eZ,hv⟩:=aA hx (by simp[cd])
 simp only[fw] at eZ
 rcases eG with⟨h0,_⟩|⟨b,cap,cur,vs,bM,h1,h2,h3,h4,h5,h6,h7,_⟩
 ·rw[h0] at hi;simp at hi
 rw[h1] at eZ
 simp only[Value.slice.injEq,bH,Addr.mk.injEq,and_true] at eZ
 obtain⟨⟨rfl,rfl⟩,_,_⟩:=eZ
 rw[kO] at hv
 have jt:=ba (d:=U.bj x0.τ) hi
 have vV:∀j,j<U.wd x0.τ->∃c,(U.enc x0.τ (x0.xs.getD i (U.bj x0.τ)))[j]? =some c:=fun j hj=>by
  have ir:j<(U.enc x0.τ (x0.xs.getD i (U.bj x0.τ))).length:=by rw[U.aK];exact hj
  exact⟨_,cF ir⟩
 have gZ:∀j u,((List.range n).map fun j=>vs (i*U.wd x0.τ+(off+j)))[j]? =some u->j<n/\u=vs (i*U.wd x0.τ+(off+j)):=fun j u hu=>by
  rw[eW] at hu
  by_cases hj:j<n
  ·rw[sB hj] at hu
   exact⟨hj,by simpa using hu.symm⟩
  ·rw[fb (by simp;omega)] at hu;cases hu
 obtain⟨v,AE,AD⟩:=xg (us:=(List.range n).map fun j=>vs (i*U.wd x0.τ+(off+j))) (b:=bb) (off:=i*U.wd x0.τ+off) hs hg sh (by simp) (fun j u hu=>by
  obtain⟨hj,rfl⟩:=gZ j u hu
  obtain⟨c,nV⟩:=vV (off+j) (by omega)
  rw[cell_of_row w bb _ cur _ (0,0) h2,<-h6 _ (bm jt nV)]
  congr 1;omega)
 refine⟨v,by unfold execOp;simp only[ho,hv];exact b8 AE,_,?_,AD⟩
 refine wx (by simp[U.aK];omega) fun j y u hy hu=> ?_
 obtain⟨hj,rfl⟩:=gZ j u hu
 rw[eW] at hy
 obtain⟨c,nV⟩:=vV (off+j) (by omega)
 have ud:(((U.enc x0.τ (x0.xs.getD i (U.bj x0.τ))).drop off).take n)[j]? =some c:=by rw[fg,if_pos hj,nH];exact nV
 rw[ud] at hy
 simp only[nG,bH] at hy
 subst hy
 have cR:=h7 i _ (off+j) c jt nV
 have h0:bM (i*U.wd x0.τ+(off+j))=[]:=by
  generalize bM (i*U.wd x0.τ+(off+j))=l at cR
  generalize vs (i*U.wd x0.τ+(off+j))=u at cR
  cases cR<;>rfl
 rw[h0] at cR
 exact⟨cR.bn,.inr cR⟩
theorem IC(h:aE E pm F kv fp σ a w){o:Oper}(hd:∀d,o.dst=some d->d<σ.n){t:TypeId}{x:Operand}{sx:SV U}{y:AC U}{n:Nat}{g:Bool}{ks:List Key}{r:az U}(ho:o.op=.load t x)
  (hx:RS E w F kv fp (ay σ) sx (a.eval x)) (hc:i_ sx=some y) (gR:∀k∈y.keys,Names σ k) (hs:E.size t=some n) (hg:E.isAgg t=some g)
  (hr:rY (restrict σ.aw ks) (o.dst.getD 1000000) g n y=some r) (hp:∀p∈r.pre,p) (fj:∀k∈aM o r,¬Names σ k)
  {next:Act->World->Prop} {Q:Exit->Act->World->Prop} (hn:∀F kv fp a' w',aE E pm F kv fp (AM.apply o r σ) a' w'->next a' w'):o.wp E.P a w next Q:=by
 have hx:=du hx hc
 unfold rY at hr
 split at hr
 rotate_left
 ·cases hr
 rename_i k i wd off
 split at hr
 rotate_left
 ·cases hr
 rename_i x0 dead he
 have a_:=cQ he
 rw[bV] at hr
 split at hr
 rotate_left
 ·cases hr
 rename_i hb
 simp only[c9] at hb
 obtain⟨⟨sh,hle⟩,je⟩:=hb
 have hle:=qj hle
 have je:=eI je
 subst je
 simp only at hr
 have r_:i<x0.xs.length/\dead i=false:=by
  rw[bV] at hr
  split at hr
  ·cases hr;exact⟨hp _ (by simp[az.aF]),hp _ (by simp[az.aF])⟩
  ·rw[bV] at hr
   split at hr
   ·cases hr;exact⟨hp _ (by simp[az.aF]),hp _ (by simp[az.aF])⟩
   rw[bV] at hr
   split at hr
   ·cases hr;exact⟨hp _ (by simp),hp _ (by simp)⟩
   ·cases hr
 obtain⟨hi,wJ⟩:=r_
 have eG:aU E w F dead x0 (kv k) (fp k):=h.aJ k _ a_
 obtain⟨b,cap,us,gl,l',h1,h2,h3,h4,h5,h6,h7,h8⟩:=eG.out (h.nodup k _ a_) hi wJ hle
 obtain⟨bb,oo,nn,cc,eZ,hv⟩:=aA hx (by simp[cd])
 simp only[fw] at eZ
 rw[h1] at eZ
 simp only[Value.slice.injEq,bH,Addr.mk.injEq,and_true] at eZ
 obtain⟨⟨rfl,rfl⟩,_,_⟩:=eZ
 rw[kO] at hv
 obtain⟨v,AE,AD⟩:=xg hs hg sh h2 h4
 have cx:(execOp a.eval o).run E.P w=.ok (.value v) w:=by unfold execOp;simp only[ho,hv];exact b8 AE
 have ck:(((U.enc x0.τ (x0.xs.getD i (U.bj x0.τ))).drop off).take n).length=n:=by simp[U.aK];omega
 rw[bV] at hr
 split at hr
 ·rename_i pf
  cases hr
  refine gW cx (hn F kv fp _ _ (h.val o _ _ v hd (fun sv mX=> ?_)))
  cases mX
  refine⟨us,?_,AD⟩
  exact rT (by rw[h2,ck]) fun j c hj=>by
   obtain⟨u,rfl⟩:=xb pf j c hj
   exact(h5 j _ hj).pb
 ·rw[bV] at hr
  split at hr
  ·cases hr
   refine gW cx (hn F kv fp _ _ (h.val o _ _ v hd (fun sv mX=> ?_)))
   cases mX
   refine⟨us,wx (by rw[xr,h2,ck]) (fun j' y' u hy hu=> ?_),AD⟩
   obtain⟨c,nV,ud⟩:=xt hy
   have cR:=h5 j' c nV
   have gG:us.getD j' undef=u:=by rw[cB,hu];rfl
   rw[gG] at cR
   rcases ud with⟨v',rfl,rfl⟩|⟨nZ,xs',rfl,rfl⟩
   ·obtain⟨_,e2,e3⟩:=cR.dK
    subst e2
    exact⟨cR.bn,.inr (.lit _ _ e3)⟩
   ·refine⟨cR.bn,.inr ?_⟩
    have cn:bb∈fp k:=by
     rcases eG with⟨h0,_⟩|⟨b',Pw,cur',jJ,df,g1,_,_,_,_,_,_,_,g9⟩
     ·rw[h0] at hi;simp at hi
     ·rw[h1] at g1
      simp only[Value.slice.injEq,bH,Addr.mk.injEq,and_true] at g1
      rw[g9,<-g1.1];simp
    refine⟨bb,0,_,cap,u,h1,.inr cn,?_,rfl⟩
    rw[kO,<-uD]
    exact h4 j' u hu
  rw[bV] at hr
  split at hr
  rotate_left
  ·cases hr
  rename_i hJ
  have od:=zp hr
  obtain⟨D,d1,d2,d3,d4⟩:=qx (dst:=o.dst.getD 1000000) (base:=0) (vs:=us) (fl:=gl) (h2.trans ck.symm) (h3.trans ck.symm) h5
  have yS:=h.split (o:=o) hd D k _ (.part x0 (fun j=>Nat.beq j i||dead j)) a_ (.v ⟨g,(ak (o.dst.getD 1000000) true 0 (((U.enc x0.τ (x0.xs.getD i (U.bj x0.τ))).drop off).take n)).1⟩) [i<x0.xs.length,dead i=false] v l' ?_ ?_ (gR k (by simp[AC.keys])) ?_ d2 ?_ (by rw[d3];exact h7) (by rw[d3];exact h8)
  ·obtain⟨kv',fp',ff⟩:=yS
   refine gW cx (hn F kv' fp' _ _ ?_)
   rw[<-od,d1];exact ff
  ·have:=D8.1 hJ
   rw[d1] at this
   simpa[bi.es,Function.comp_def] using this
  ·intro s hs
   refine fj _ ?_
   rw[<-od]
   simp only[aM,d1,bi.es,eV]
   exact⟨_,⟨s,hs,rfl⟩,rfl⟩
  ·intro kv' fp' bad hk
   exact⟨us,d4 kv' fp' bad hk,AD⟩
  ·intro kv' fp' bad
   exact h6
theorem DC(h:aE E pm F kv fp σ a w){ks:List Key}{y:AC U}{v:Value}{b:fx U}(hr:partOf (restrict σ.aw ks) y=some b)(hx:RD E w F kv fp (ay σ) y v):
  ∃k dead,y=.ref k []/\v=kv k/\aU E w F dead b v (fp k):=by
 unfold partOf at hr
 split at hr
 ·rename_i k
  split at hr
  ·rename_i x dead he
   cases hr
   have h1:v=kv k:=aA hx rfl
   subst h1
   exact⟨k,dead,rfl,rfl,h.aJ k _ (cQ he)⟩
  ·cases hr
 ·cases hr
theorem aU.slice{dead:Nat->Bool}{x:fx U}{v:Value}{l:List Nat}(h:aU E w F dead x v l):∃ad c,v=.slice ad x.xs.length c/\x.xs.length<=maxLen:=by
 rcases h with⟨h0,⟨ad,rfl⟩,_⟩|⟨b,cap,cur,vs,bM,rfl,_,hc,hm,_⟩
 ·exact⟨ad,0,by simp[h0],by simp[h0]⟩
 ·exact⟨_,_,rfl,tg hc hm⟩
theorem IP(h:aE E pm F kv fp σ a w){o:Oper}{t:TypeId}{x y:Operand}{sx sy:SV U}{k:Key}{ks:List Key}{kd:IntKind}{n:Int}{m:Nat}{b:fx U}(ho:o.op=.indexAddr t x y)
  (hx:RS E w F kv fp (ay σ) sx (a.eval x)) (hc:i_ sx=some (.ref k [])) (hy:RS E w F kv fp (ay σ) sy (a.eval y)) (hl:cq sy=some (.int kd n)) (hm:(E.elem t).bind E.size=some m)
  (ha:partOf (restrict σ.aw ks) (.ref k [])=some b) (hw:m=U.wd b.τ)
  (h1:0<=n) (h2:n.toNat<b.xs.length):aB E F kv fp (ay σ) a w o (one (.dG k [] n.toNat (U.wd b.τ) 0)):=by
 obtain⟨e,i,hu,hi,hs⟩:=fM hm
 have h3:=fR hy hl
 have mr:=du hx hc
 obtain⟨k',dead,hk,vr,eG⟩:=DC h ha mr
 cases hk
 rcases eG with⟨h0,_⟩|⟨b',cap,cur,vs,bM,h4,_⟩
 ·rw[h0] at h2;simp at h2
 ·refine⟨.pointer (some ⟨b',0+n.toNat*U.wd b.τ,none⟩),?_,bY ⟨⟨rfl,trivial⟩,.inr ⟨b',0,b.xs.length,cap,?_,by simp⟩⟩⟩
  ·unfold execOp;simp only[ho,h3,h4]
   rw[<-hw,<-hs]
   exact b8 (Aa hu hi h1 h2)
  ·simp only[fw];rw[<-vr,h4]
end AM
