import Derived.Test.YtmcepppejchhkaaGreatDoorQAmCall3
namespace AM
set_option linter.unusedVariables false
open Go
variable{U:lQ}{E:Env U}{pm:Pm}
variable{F F':Nat->Prop}{kv:Key->Value}{fp:Key->List Nat}{σ:ak U}{a:Act}{w w':World}{bad:Key->Bool}
theorem aae{α:Type}{f g:α->List Nat}:∀{l:List α},(∀x∈l,(f x).Sublist (g x))->(l.flatMap f).Sublist (l.flatMap g)
 |[],_=>W_ _
 |x::l,h=>by
  rw[zZ,zZ]
  exact List.Sublist.append (h x iH) (aae fun y hy=>h y (fF _ hy))
theorem adh{τ:U.Ty}{xs:List (U.T τ)}{n:Nat}(hn:n<xs.length*U.wd τ):∃i x j c,n=i*U.wd τ+j/\j<U.wd τ/\i<xs.length/\xs[i]? =some x/\(U.enc τ x)[j]? =some c:=by
 have hw:=U.lq τ
 have hi:n/U.wd τ<xs.length:=(Nat.div_lt_iff_lt_mul hw).2 hn
 have hj:n%U.wd τ<U.wd τ:=Nat.mod_lt _ hw
 refine⟨n/U.wd τ,xs[n/U.wd τ],n%U.wd τ,(U.enc τ xs[n/U.wd τ])[n%U.wd τ]'(by rw[U.dG];exact hj),?_,hj,hi,fE hi,fE _⟩
 rw[UL];exact(Nat.div_add_mod n _).symm
theorem fe.part{x:iE U}{v:Value}{l:List Nat}(h:fe E w F true x v l):eK E w F (fun _=>false) x v l:=by
 rcases h with h|⟨b,cap,cur,vs,ie,rfl,hb,hc,hm,hs,hv,hr,rfl⟩
 ·exact .inl h
 ·refine .inr ⟨b,cap,cur,vs,ie,rfl,hb,hc,hm,hs,fun n hn=>⟨hv n hn,?_⟩,fun i y j c _ hy hj=>hr i y j c hy hj,fun i j hi _=>Bool.noConfusion hi,rfl⟩
  obtain⟨i,y,j,c,rfl,_,_,hy,hj⟩:=adh hn
  exact(hr i y j c hy hj).gF
theorem Vt{i i' j j' wd:Nat}(hj:j<wd)(uA:j'<wd)(h:i*wd+j=i'*wd+j'):i=i'/\j=j':=by
 have h1:(i*wd+j)/wd=i:=by rw[UL,Nat.mul_add_div (by omega)];simp[zez hj]
 have h2:(i'*wd+j')/wd=i':=by rw[UL,Nat.mul_add_div (by omega)];simp[zez uA]
 have:i=i':=by rw[<-h1,<-h2,h]
 subst this
 exact⟨rfl,by omega⟩
theorem alv{s n N:Nat}(h:s+n<=N):(List.range' s n).Sublist (List.range' 0 N):=by
 have e1:List.range' 0 s++List.range' (0+s) (N-s)=List.range' 0 (s+(N-s)):=List.range'_append_1
 have e2:List.range' s n++List.range' (s+n) (N-s-n)=List.range' s (n+(N-s-n)):=List.range'_append_1
 rw[show n+(N-s-n)=N-s by omega] at e2
 rw[vB,<-e2,show s+(N-s)=N by omega] at e1
 rw[<-e1]
 exact(zer _ _).trans (zem _ _)
theorem eK.out{dead:Nat->Bool}{x:iE U}{v:Value}{l:List Nat}(h:eK E w F dead x v l)(qE:l.Nodup){i off n:Nat}(hi:i<x.xs.length)(UF:dead i=false)(hle:off+n<=U.wd x.τ):
  ∃(b cap:Nat)(us:List Value)(gl:List (List Nat))(l':List Nat),v=.slice (some ⟨b,0,none⟩) x.xs.length cap/\us.length=n/\gl.length=n/\w.rangeAt b (i*U.wd x.τ+off) us/\
   (∀(j:Nat)(c:U.C),(((U.enc x.τ (x.xs.getD i (U.ff x.τ))).drop off).take n)[j]? =some c->Rp E w F true c (us.getD j undef) (gl.getD j []))/\
   eK E w F (fun j=>Nat.beq j i||dead j) x v l'/\(gl.flatten++l').Nodup/\∀b∈gl.flatten++l',b∈l:=by
 rcases h with⟨h0,_⟩|⟨b,cap,cur,vs,ie,rfl,hb,hc,hm,hs,hv,hr,kM,rfl⟩
 ·rw[h0] at hi;simp at hi
 have wM:=fM (d:=U.ff x.τ) hi
 have px:∀j,j<U.wd x.τ->i*U.wd x.τ+j<x.xs.length*U.wd x.τ:=fun j hj=>
  fS wM (c:=(U.enc x.τ (x.xs.getD i (U.ff x.τ)))[j]'(by rw[U.dG];exact hj)) (fE _)
 rw[ur] at qE
 obtain⟨QO,hnf⟩:=qE
 let kP:Nat->List Nat:=fun m=>if i*U.wd x.τ<=m/\m<i*U.wd x.τ+U.wd x.τ then[] else ie m
 have sn:∀m,i*U.wd x.τ<=m/\m<i*U.wd x.τ+U.wd x.τ->kP m=[]:=fun m hm=>if_pos hm
 have SE:∀m,¬(i*U.wd x.τ<=m/\m<i*U.wd x.τ+U.wd x.τ)->kP m=ie m:=fun m hm=>if_neg hm
 have qD:((List.range (x.xs.length*U.wd x.τ)).flatMap kP).Sublist ((List.range (x.xs.length*U.wd x.τ)).flatMap ie):=aae fun m _=>by
  simp only[kP];split
  ·exact List.nil_sublist _
  ·exact W_ _
 have E7:∀j,off+j<U.wd x.τ->∀b',b'∈ie (i*U.wd x.τ+(off+j))->b'∈(List.range (x.xs.length*U.wd x.τ)).flatMap ie:=fun j hj b' bj=>o8.2 ⟨_,pR.2 (px _ hj),bj⟩
 have SB:((List.range n).map fun j=>ie (i*U.wd x.τ+(off+j))).flatten=(List.range n).flatMap fun j=>ie (i*U.wd x.τ+(off+j)):=by rw[Pa]
 have aeM:∀m m',m<x.xs.length*U.wd x.τ->m'<x.xs.length*U.wd x.τ->m≠m'->∀b',b'∈ie m->b'∉ie m':=fun m m' hm vT fc b' bj=>Ry hnf (pR.2 hm) (pR.2 vT) fc bj
 refine⟨b,cap,(List.range n).map fun j=>vs (i*U.wd x.τ+(off+j)),(List.range n).map fun j=>ie (i*U.wd x.τ+(off+j)),b::(List.range (x.xs.length*U.wd x.τ)).flatMap kP,rfl,by simp,by simp,fun j u hu=> ?_,fun j c hj=> ?_,?_,?_,?_⟩
 ·rw[nS] at hu
  by_cases hjn:j<n
  ·rw[NU hjn] at hu
   simp only[Gj,gI] at hu
   rw[cell_of_row w b _ cur _ (0,0) hb,<-hu,show i*U.wd x.τ+off+j=i*U.wd x.τ+(off+j) by omega]
   exact(hv _ (px _ (by omega))).1
  ·rw[ot (by simp;omega)] at hu;cases hu
 ·have hjn:j<n:=by
   rw[qy] at hj
   split at hj
   ·assumption
   ·cases hj
  rw[qy,if_pos hjn,HR] at hj
  have:=hr i _ (off+j) c UF wM hj
  rw[eV,nS,NU hjn,eV,nS,NU hjn]
  exact this
 ·refine .inr ⟨b,cap,cur,vs,kP,rfl,hb,hc,hm,hs,hv,fun k y j c hk hy hj=> ?_,fun k j hk hj=> ?_,rfl⟩
  ·simp only[QK] at hk
   have Wd:k≠i:=fun e=>by subst e;simp at hk
   have P_:j<U.wd x.τ:=by
    rw[<-U.dG x.τ y]
    rcases pt j (U.enc x.τ y).length with h|h
    ·exact h
    ·rw[ot h] at hj;cases hj
   rw[SE _ (fun qG=>Wd (Vt P_ (show k*U.wd x.τ+j-i*U.wd x.τ<U.wd x.τ by omega) (by omega)).1)]
   exact hr k y j c hk.2 hy hj
  ·by_cases Wd:k=i
   ·subst Wd
    exact sn _ ⟨by omega,by omega⟩
   ·rw[SE _ (fun qG=>Wd (Vt hj (show k*U.wd x.τ+j-i*U.wd x.τ<U.wd x.τ by omega) (by omega)).1)]
    refine kM k j ?_ hj
    rw[Gc] at hk
    exact hk.resolve_left (fun e=>Wd (by simpa using e))
 ·rw[SB,rV]
  refine⟨?_,ur.2 ⟨fun bj=>QO (qD.subset bj),qD.nodup hnf⟩,fun b1 uD b2 uC he=> ?_⟩
  ·have hs2:((List.range n).map fun j=>i*U.wd x.τ+(off+j)).Sublist (List.range (x.xs.length*U.wd x.τ)):=by
    have e1:(List.range n).map (fun j=>i*U.wd x.τ+(off+j))=List.range' (i*U.wd x.τ+off) n:=by
     rw[List.range'_eq_map_range]
     exact Pb fun j _=>by omega
    rw[e1,List.range_eq_range']
    have ix:=px (U.wd x.τ-1) (by have:=U.lq x.τ;omega)
    exact alv (by have:=U.lq x.τ;omega)
   have:((List.range n).flatMap fun j=>ie (i*U.wd x.τ+(off+j)))=((List.range n).map fun j=>i*U.wd x.τ+(off+j)).flatMap ie:=by rw[List.flatMap_map]
   rw[this]
   have hs3:∀{l1 l2:List Nat},l1.Sublist l2->(l1.flatMap ie).Sublist (l2.flatMap ie):=by
    intro l1 l2 hh
    induction hh with
    |slnil=>exact W_ _
    |cons y _ ih=>rw[zZ];exact ih.trans (zem _ _)
    |cons_cons y _ ih=>rw[zZ,zZ];exact List.Sublist.append (W_ _) ih
   exact(hs3 hs2).nodup hnf
  ·subst he
   obtain⟨j,hj,uD⟩:=o8.1 uD
   rw[pR] at hj
   rcases kc.1 uC with rfl|uC
   ·exact QO (E7 j (by omega) _ uD)
   ·obtain⟨m,vT,uC⟩:=o8.1 uC
    rw[pR] at vT
    by_cases qG:i*U.wd x.τ<=m/\m<i*U.wd x.τ+U.wd x.τ
    ·rw[sn m qG] at uC;cases uC
    ·rw[SE m qG] at uC
     exact aeM _ m (px _ (by omega)) vT (fun e=>qG (by omega)) b1 uD uC
 ·intro b' bj
  rcases jI.1 bj with bj|bj
  ·rw[SB] at bj
   obtain⟨j,hj,bj⟩:=o8.1 bj
   rw[pR] at hj
   exact fF _ (E7 j (by omega) _ bj)
  ·rcases kc.1 bj with rfl|bj
   ·exact iH
   ·exact fF _ (qD.subset bj)
theorem cR.split(h:cR E pm F kv fp σ a w){o:Oper}(hd:∀d,o.dst=some d->d<σ.n)(D:fw U)(k:Key)(e0 e:iX U)(nX:σ.bP k=some e0)(sv:SV U)(ps:List Prop)(v:Value)(l':List Nat)
  (Ou:(D.map (·.1)).Nodup)
  (oG:∀s∈D,¬Names σ (o.dst.getD 1000000,s.1)) (uL:Names σ k)
  (E5:∀kv' fp' bad,(∀s∈D,kv' (o.dst.getD 1000000,s.1)=s.2.2.1)->RS E w F kv' fp' bad sv v)
  (hD:∀s∈D,∀kv fp bad,ug E w F kv fp bad s.2.1 s.2.2.1 s.2.2.2)
  (hE:∀kv' fp' bad,ug E w F kv' fp' bad e (kv k) l')
  (qE:(D.bl++l').Nodup) (qG:∀b∈D.bl++l',b∈fp k):
  ∃kv fp,cR E pm F kv fp (AM.apply o ⟨some sv,D.es,[],[(k,e)],ps⟩ σ) (a.put o.dst v) w:=by
 generalize hr:(⟨some sv,D.es,[],[(k,e)],ps⟩:cq U)=r
 have kN:∀k',k'∈dZ o r↔∃s∈D,k'=(o.dst.getD 1000000,s.1):=by
  intro k'
  rw[<-hr]
  simp only[dZ,fw.es,mz]
  constructor
  ·rintro⟨p,⟨s,hs,rfl⟩,rfl⟩;exact⟨s,hs,rfl⟩
  ·rintro⟨s,hs,rfl⟩;exact⟨_,⟨s,hs,rfl⟩,rfl⟩
 have ll:jW r=[k]:=by rw[<-hr];rfl
 have AA:r.lZ=[]:=by rw[<-hr]
 have Sy:k∉dZ o r:=fun hk=>by
  obtain⟨s,hs,rfl⟩:=(kN k).1 hk
  exact oG s hs uL
 have kk:∀k',k'∉dZ o r->D.BX (o.dst.getD 1000000) kv k'=kv k'/\D.AH (o.dst.getD 1000000) (dJ fp k l') k'=dJ fp k l' k':=by
  intro k' cY
  exact fw.other (fun t ht e=>cY ((kN k').2 ⟨t,ht,e⟩)) kv (dJ fp k l')
 have Wm:∀s∈D,D.BX (o.dst.getD 1000000) kv (o.dst.getD 1000000,s.1)=s.2.2.1/\D.AH (o.dst.getD 1000000) (dJ fp k l') (o.dst.getD 1000000,s.1)=s.2.2.2:=fun s hs=>⟨fw.yE Ou hs,fw.vV Ou hs⟩
 rw[rV] at qE
 obtain⟨Su,V6,V5⟩:=qE
 have hm:∀b∈fp k,¬F b/\(pm.W b\/pm.w0.heap.size<=b)/\b<w.heap.size:=fun b hb=>h.fT k e0 b nX hb
 refine⟨D.BX (o.dst.getD 1000000) kv,D.AH (o.dst.getD 1000000) (dJ fp k l'),?_⟩
 refine h.apply (F':=F) (w':=w) o r v hd ?_ (fun k' cY=>(kk k' cY).1) ?_ ?_ (fun b hb=>⟨hb,rfl⟩) (fun _ _ _ _ _ _ _ _=>rfl) ?_ ?_ ?_ h.uI h.uH h.upto (uh _)
 ·intro sv' aaX
  rw[<-hr] at aaX
  simp only[gI] at aaX
  subst aaX
  exact E5 _ _ _ fun s hs=>(Wm s hs).1
 ·intro k' h1 h2
  rw[(kk k' h1).2]
  rw[ll] at h2
  exact BV (by simpa using h2)
 ·intro k' cY
  obtain⟨s,hs,rfl⟩:=(kN k').1 cY
  exact oG s hs
 ·rintro k' e' (⟨j,rfl,hj⟩|cY)
  ·rw[<-hr] at hj
   simp only[fw.es,mz] at hj
   obtain⟨s,hs,hj⟩:=hj
   obtain⟨rfl,rfl⟩:=Prod.mk.inj hj
   rw[(Wm s hs).1,(Wm s hs).2]
   exact⟨hD s hs _ _ _,fw.zi Su hs,fun b hb=>hm b (qG b (rW _ (fw.qp.2 ⟨s,hs,hb⟩)))⟩
  ·rw[<-hr] at cY
   simp only[mW,pE] at cY
   obtain⟨rfl,rfl⟩:=cY
   rw[(kk k' Sy).1,(kk k' Sy).2,uw]
   exact⟨hE _ _ _,V6,fun b hb=>hm b (qG b (qM _ hb))⟩
 ·intro k' e' b _ _ _ he hb;exact(h.fT k' e' b he hb).1
 ·intro k1 k2 b fc AB lH hb
  rw[ll,AA] at lH
  rw[ll] at AB
  have key:∀k',(k'∈dZ o r\/k'∈[k])->∀b∈D.AH (o.dst.getD 1000000) (dJ fp k l') k',b∈fp k/\((∃s∈D,k'=(o.dst.getD 1000000,s.1)/\b∈s.2.2.2)\/(k'=k/\b∈l')):=by
   intro k' cY b hb
   rcases cY with cY|cY
   ·obtain⟨s,hs,rfl⟩:=(kN k').1 cY
    rw[(Wm s hs).2] at hb
    exact⟨qG b (rW _ (fw.qp.2 ⟨s,hs,hb⟩)),.inl ⟨s,hs,rfl,hb⟩⟩
   ·have:=mW.1 cY
    subst this
    rw[(kk k' Sy).2,uw] at hb
    exact⟨qG b (qM _ hb),.inr ⟨rfl,hb⟩⟩
  obtain⟨g1,g2⟩:=key k1 AB b hb
  intro bj
  rcases lH with lH|lH|⟨_,lH⟩
  ·obtain⟨_,g4⟩:=key k2 (.inl lH) b bj
   rcases g2 with⟨s,hs,rfl,UE⟩|⟨rfl,Qg⟩
   ·rcases g4 with⟨s',kE,rfl,BZ⟩|⟨rfl,GD⟩
    ·exact fw.sD Su hs kE (fun e=>fc (by rw[e])) UE BZ
    ·exact V5 b (fw.qp.2 ⟨s,hs,UE⟩) b GD rfl
   ·rcases g4 with⟨s',kE,rfl,BZ⟩|⟨rfl,GD⟩
    ·exact V5 b (fw.qp.2 ⟨s',kE,BZ⟩) b Qg rfl
    ·exact fc rfl
  ·obtain⟨_,g4⟩:=key k2 (.inr lH) b bj
   rcases g2 with⟨s,hs,rfl,UE⟩|⟨rfl,Qg⟩
   ·rcases g4 with⟨s',kE,rfl,BZ⟩|⟨rfl,GD⟩
    ·exact fw.sD Su hs kE (fun e=>fc (by rw[e])) UE BZ
    ·exact V5 b (fw.qp.2 ⟨s,hs,UE⟩) b GD rfl
   ·rcases g4 with⟨s',kE,rfl,BZ⟩|⟨rfl,GD⟩
    ·exact V5 b (fw.qp.2 ⟨s',kE,BZ⟩) b Qg rfl
    ·exact fc rfl
  ·by_cases abt:k2∈dZ o r
   ·obtain⟨_,g4⟩:=key k2 (.inl abt) b bj
    rcases g2 with⟨s,hs,rfl,UE⟩|⟨rfl,Qg⟩
    ·rcases g4 with⟨s',kE,rfl,BZ⟩|⟨rfl,GD⟩
     ·exact fw.sD Su hs kE (fun e=>fc (by rw[e])) UE BZ
     ·exact V5 b (fw.qp.2 ⟨s,hs,UE⟩) b GD rfl
    ·rcases g4 with⟨s',kE,rfl,BZ⟩|⟨rfl,GD⟩
     ·exact V5 b (fw.qp.2 ⟨s',kE,BZ⟩) b Qg rfl
     ·exact fc rfl
   ·by_cases We:k2=k
    ·obtain⟨_,g4⟩:=key k2 (.inr (by simp[We])) b bj
     rcases g2 with⟨s,hs,rfl,UE⟩|⟨rfl,Qg⟩
     ·rcases g4 with⟨s',kE,rfl,BZ⟩|⟨rfl,GD⟩
      ·exact abt ((kN _).2 ⟨s',kE,rfl⟩)
      ·exact V5 b (fw.qp.2 ⟨s,hs,UE⟩) b GD rfl
     ·exact fc We.symm
    ·rw[(kk k2 abt).2,BV We] at bj
     obtain⟨e2,uB⟩:=nA.1 lH
     exact h.apart k k2 e0 e2 b (Ne.symm We) nX uB g1 bj
theorem alR(h:cR E pm F kv fp σ a w){o:Oper}{t:TypeId}{x:Operand}{sx:SV U}{y:AC U}{n:Nat}{g:Bool}{ks:List Key}{r:cq U}(ho:o.op=.load t x)
  (hx:RS E w F kv fp (bY σ) sx (a.eval x)) (hc:vx sx=some y) (hs:E.size t=some n) (hg:E.isAgg t=some g)
  (hr:EW (restrict σ.bP ks) g n y=some r) (hp:∀p∈r.pre,p):∃sv ps,r=⟨some sv,[],[],[],ps⟩/\cI E F kv fp (bY σ) a w o sv:=by
 have hx:=lD hx hc
 unfold EW at hr
 split at hr
 rotate_left
 ·cases hr
 rename_i k i wd off
 split at hr
 rotate_left
 ·cases hr
 rename_i x0 he
 have fi:=kf he
 rw[iw] at hr
 split at hr
 rotate_left
 ·cases hr
 rename_i hb
 simp only[cN] at hb
 obtain⟨⟨Qb,hle⟩,vP⟩:=hb
 have hle:=Kp hle
 have vP:=nF vP
 subst vP
 cases hr
 refine⟨_,_,rfl,?_⟩
 have hi:i<x0.xs.length:=hp _ (by simp[cq.cP])
 have oB:fe E w F false x0 (kv k) (fp k):=h.dD k _ fi
 obtain⟨bb,oo,nn,cc,oE,hv⟩:=cx hx (by simp[iT])
 simp only[pI] at oE
 rcases oB with⟨h0,_⟩|⟨b,cap,cur,vs,ie,h1,h2,h3,h4,h5,h6,h7,_⟩
 ·rw[h0] at hi;simp at hi
 rw[h1] at oE
 simp only[Value.slice.injEq,gI,Addr.mk.injEq,and_true] at oE
 obtain⟨⟨rfl,rfl⟩,_,_⟩:=oE
 rw[vB] at hv
 have wM:=fM (d:=U.ff x0.τ) hi
 have SM:∀j,j<U.wd x0.τ->∃c,(U.enc x0.τ (x0.xs.getD i (U.ff x0.τ)))[j]? =some c:=fun j hj=>by
  have uA:j<(U.enc x0.τ (x0.xs.getD i (U.ff x0.τ))).length:=by rw[U.dG];exact hj
  exact⟨_,fE uA⟩
 have tv:∀j u,((List.range n).map fun j=>vs (i*U.wd x0.τ+(off+j)))[j]? =some u->j<n/\u=vs (i*U.wd x0.τ+(off+j)):=fun j u hu=>by
  rw[nS] at hu
  by_cases hj:j<n
  ·rw[NU hj] at hu
   exact⟨hj,by simpa using hu.symm⟩
  ·rw[ot (by simp;omega)] at hu;cases hu
 obtain⟨v,hv1,hv2⟩:=Vg (us:=(List.range n).map fun j=>vs (i*U.wd x0.τ+(off+j))) (b:=bb) (off:=i*U.wd x0.τ+off) hs hg Qb (by simp) (fun j u hu=>by
  obtain⟨hj,rfl⟩:=tv j u hu
  obtain⟨c,GC⟩:=SM (off+j) (by omega)
  rw[cell_of_row w bb _ cur _ (0,0) h2,<-h6 _ (fS wM GC)]
  congr 1;omega)
 refine⟨v,by unfold execOp;simp only[ho,hv];exact iM hv1,_,?_,hv2⟩
 refine Ul (by simp[U.dG];omega) fun j y u hy hu=> ?_
 obtain⟨hj,rfl⟩:=tv j u hu
 rw[nS] at hy
 obtain⟨c,GC⟩:=SM (off+j) (by omega)
 have Qf:(((U.enc x0.τ (x0.xs.getD i (U.ff x0.τ))).drop off).take n)[j]? =some c:=by rw[qy,if_pos hj,HR];exact GC
 rw[Qf] at hy
 simp only[Gj,gI] at hy
 subst hy
 have kj:=h7 i _ (off+j) c wM GC
 have h0:ie (i*U.wd x0.τ+(off+j))=[]:=by
  generalize ie (i*U.wd x0.τ+(off+j))=l at kj
  generalize vs (i*U.wd x0.τ+(off+j))=u at kj
  cases kj<;>rfl
 rw[h0] at kj
 exact⟨kj.gF,.inr kj⟩
theorem alM(h:cR E pm F kv fp σ a w){o:Oper}(hd:∀d,o.dst=some d->d<σ.n){t:TypeId}{x:Operand}{sx:SV U}{y:AC U}{n:Nat}{g:Bool}{ks:List Key}{r:cq U}(ho:o.op=.load t x)
  (hx:RS E w F kv fp (bY σ) sx (a.eval x)) (hc:vx sx=some y) (vS:∀k∈y.keys,Names σ k) (hs:E.size t=some n) (hg:E.isAgg t=some g)
  (hr:Nd (restrict σ.bP ks) (o.dst.getD 1000000) g n y=some r) (hp:∀p∈r.pre,p) (oG:∀k∈dZ o r,¬Names σ k)
  {next:Act->World->Prop} {Q:Exit->Act->World->Prop} (hn:∀F kv fp a' w',cR E pm F kv fp (AM.apply o r σ) a' w'->next a' w'):o.wp E.P a w next Q:=by
 have hx:=lD hx hc
 unfold Nd at hr
 split at hr
 rotate_left
 ·cases hr
 rename_i k i wd off
 split at hr
 rotate_left
 ·cases hr
 rename_i x0 dead he
 have fi:=kf he
 rw[iw] at hr
 split at hr
 rotate_left
 ·cases hr
 rename_i hb
 simp only[cN] at hb
 obtain⟨⟨Qb,hle⟩,vP⟩:=hb
 have hle:=Kp hle
 have vP:=nF vP
 subst vP
 simp only at hr
 have Nn:i<x0.xs.length/\dead i=false:=by
  rw[iw] at hr
  split at hr
  ·cases hr;exact⟨hp _ (by simp[cq.cP]),hp _ (by simp[cq.cP])⟩
  ·rw[iw] at hr
   split at hr
   ·cases hr;exact⟨hp _ (by simp[cq.cP]),hp _ (by simp[cq.cP])⟩
   rw[iw] at hr
   split at hr
   ·cases hr;exact⟨hp _ (by simp),hp _ (by simp)⟩
   ·cases hr
 obtain⟨hi,UF⟩:=Nn
 have oB:eK E w F dead x0 (kv k) (fp k):=h.dD k _ fi
 obtain⟨b,cap,us,gl,l',h1,h2,h3,h4,h5,h6,h7,h8⟩:=oB.out (h.nodup k _ fi) hi UF hle
 obtain⟨bb,oo,nn,cc,oE,hv⟩:=cx hx (by simp[iT])
 simp only[pI] at oE
 rw[h1] at oE
 simp only[Value.slice.injEq,gI,Addr.mk.injEq,and_true] at oE
 obtain⟨⟨rfl,rfl⟩,_,_⟩:=oE
 rw[vB] at hv
 obtain⟨v,hv1,hv2⟩:=Vg hs hg Qb h2 h4
 have jz:(execOp a.eval o).run E.P w=.ok (.value v) w:=by unfold execOp;simp only[ho,hv];exact iM hv1
 have ix:(((U.enc x0.τ (x0.xs.getD i (U.ff x0.τ))).drop off).take n).length=n:=by simp[U.dG];omega
 rw[iw] at hr
 split at hr
 ·rename_i By
  cases hr
  refine te jz (hn F kv fp _ _ (h.val o _ _ v hd (fun sv E5=> ?_)))
  cases E5
  refine⟨us,?_,hv2⟩
  exact M7 (by rw[h2,ix]) fun j c hj=>by
   obtain⟨u,rfl⟩:=Va By j c hj
   exact(h5 j _ hj).Il
 ·rw[iw] at hr
  split at hr
  ·cases hr
   refine te jz (hn F kv fp _ _ (h.val o _ _ v hd (fun sv E5=> ?_)))
   cases E5
   refine⟨us,Ul (by rw[Vq,h2,ix]) (fun j' y' u hy hu=> ?_),hv2⟩
   obtain⟨c,GC,Qf⟩:=Vr hy
   have kj:=h5 j' c GC
   have tr:us.getD j' undef=u:=by rw[eV,hu];rfl
   rw[tr] at kj
   rcases Qf with⟨v',rfl,rfl⟩|⟨GI,xs',rfl,rfl⟩
   ·obtain⟨_,e2,e3⟩:=kj.kt
    subst e2
    exact⟨kj.gF,.inr (.lit _ _ e3)⟩
   ·refine⟨kj.gF,.inr ?_⟩
    have iW:bb∈fp k:=by
     rcases oB with⟨h0,_⟩|⟨b',aqK,cur',wJ,kP,g1,_,_,_,_,_,_,_,g9⟩
     ·rw[h0] at hi;simp at hi
     ·rw[h1] at g1
      simp only[Value.slice.injEq,gI,Addr.mk.injEq,and_true] at g1
      rw[g9,<-g1.1];simp
    refine⟨bb,0,_,cap,u,h1,.inr iW,?_,rfl⟩
    rw[vB,<-QX]
    exact h4 j' u hu
  rw[iw] at hr
  split at hr
  rotate_left
  ·cases hr
  rename_i tz
  have G9:=ZA hr
  obtain⟨D,d1,d2,d3,d4⟩:=KX (dst:=o.dst.getD 1000000) (base:=0) (vs:=us) (fl:=gl) (h2.trans ix.symm) (h3.trans ix.symm) h5
  have Xr:=h.split (o:=o) hd D k _ (.part x0 (fun j=>Nat.beq j i||dead j)) fi (.v ⟨g,(putCells (o.dst.getD 1000000) true 0 (((U.enc x0.τ (x0.xs.getD i (U.ff x0.τ))).drop off).take n)).1⟩) [i<x0.xs.length,dead i=false] v l' ?_ ?_ (vS k (by simp[AC.keys])) ?_ d2 ?_ (by rw[d3];exact h7) (by rw[d3];exact h8)
  ·obtain⟨kv',fp',pf⟩:=Xr
   refine te jz (hn F kv' fp' _ _ ?_)
   rw[<-G9,d1];exact pf
  ·have:=adW.1 tz
   rw[d1] at this
   simpa[fw.es,Function.comp_def] using this
  ·intro s hs
   refine oG _ ?_
   rw[<-G9]
   simp only[dZ,d1,fw.es,mz]
   exact⟨_,⟨s,hs,rfl⟩,rfl⟩
  ·intro kv' fp' bad hk
   exact⟨us,d4 kv' fp' bad hk,hv2⟩
  ·intro kv' fp' bad
   exact h6
theorem adr(h:cR E pm F kv fp σ a w){ks:List Key}{y:AC U}{v:Value}{b:iE U}(hr:partOf (restrict σ.bP ks) y=some b)(hx:RD E w F kv fp (bY σ) y v):
  ∃k dead,y=.ref k []/\v=kv k/\eK E w F dead b v (fp k):=by
 unfold partOf at hr
 split at hr
 ·rename_i k
  split at hr
  ·rename_i x dead he
   cases hr
   have h1:v=kv k:=cx hx rfl
   subst h1
   exact⟨k,dead,rfl,rfl,h.dD k _ (kf he)⟩
  ·cases hr
 ·cases hr
theorem eK.slice{dead:Nat->Bool}{x:iE U}{v:Value}{l:List Nat}(h:eK E w F dead x v l):∃ad c,v=.slice ad x.xs.length c/\x.xs.length<=maxLen:=by
 rcases h with⟨h0,⟨ad,rfl⟩,_⟩|⟨b,cap,cur,vs,ie,rfl,_,hc,hm,_⟩
 ·exact⟨ad,0,by simp[h0],by simp[h0]⟩
 ·exact⟨_,_,rfl,uN hc hm⟩
theorem alY(h:cR E pm F kv fp σ a w){o:Oper}{t:TypeId}{x y:Operand}{sx sy:SV U}{k:Key}{ks:List Key}{kd:IntKind}{n:Int}{m:Nat}{b:iE U}(ho:o.op=.indexAddr t x y)
  (hx:RS E w F kv fp (bY σ) sx (a.eval x)) (hc:vx sx=some (.ref k [])) (hy:RS E w F kv fp (bY σ) sy (a.eval y)) (hl:ji sy=some (.int kd n)) (hm:(E.elem t).bind E.size=some m)
  (ha:partOf (restrict σ.bP ks) (.ref k [])=some b) (hw:m=U.wd b.τ)
  (h1:0<=n) (h2:n.toNat<b.xs.length):cI E F kv fp (bY σ) a w o (one (.l7 k [] n.toNat (U.wd b.τ) 0)):=by
 obtain⟨e,i,hu,hi,hs⟩:=qj hm
 have h3:=qB hy hl
 have Cf:=lD hx hc
 obtain⟨k',dead,hk,Sk,oB⟩:=adr h ha Cf
 cases hk
 rcases oB with⟨h0,_⟩|⟨b',cap,cur,vs,ie,h4,_⟩
 ·rw[h0] at h2;simp at h2
 ·refine⟨.pointer (some ⟨b',0+n.toNat*U.wd b.τ,none⟩),?_,iD ⟨⟨rfl,trivial⟩,.inr ⟨b',0,b.xs.length,cap,?_,by simp⟩⟩⟩
  ·unfold execOp;simp only[ho,h3,h4]
   rw[<-hw,<-hs]
   exact iM (aat hu hi h1 h2)
  ·simp only[pI];rw[<-Sk,h4]
end AM
