/- THE ABSTRACT MACHINE: an element that is moved out of a row. -/
import Derived.Test.YtjlajhgabffmpaaGreatQAmCall3
namespace AM
set_option linter.unusedVariables false
open Go
variable{U:lu}{E:Env U}{pm:Pm}
variable{F F':Nat->Prop}{kv:Key->Value}{fp:Key->List Nat}{σ:ai U}{a:Act}{w w':World}{bad:Key->Bool}
theorem ZC{α:Type}{f g:α->List Nat}:∀{l:List α},(∀x∈l,(f x).Sublist (g x))->(l.flatMap f).Sublist (l.flatMap g)
 |[],_=>WI _
 |x::l,h=>by
  rw[zt,zt]
  exact List.Sublist.append (h x gB) (ZC fun y hy=>h y (cI _ hy))
theorem acr{τ:U.Ty}{xs:List (U.T τ)}{n:Nat}(hn:n<xs.length*U.wd τ):∃i x j c,n=i*U.wd τ+j/\j<U.wd τ/\i<xs.length/\xs[i]? =some x/\(U.enc τ x)[j]? =some c:=by
 have hw:=U.la τ
 have hi:n/U.wd τ<xs.length:=(Nat.div_lt_iff_lt_mul hw).2 hn
 have hj:n%U.wd τ<U.wd τ:=Nat.mod_lt _ hw
 refine⟨n/U.wd τ,xs[n/U.wd τ],n%U.wd τ,(U.enc τ xs[n/U.wd τ])[n%U.wd τ]'(by rw[U.dK];exact hj),?_,hj,hi,fH hi,fH _⟩
 rw[Uy];exact(Nat.div_add_mod n _).symm
theorem fi.part{x:jh U}{v:Value}{l:List Nat}(h:fi E w F true x v l):eW E w F (fun _=>false) x v l:=by
 rcases h with h|⟨b,cap,cur,vs,ic,rfl,hb,hc,hm,hs,hv,hr,rfl⟩
 ·exact .inl h
 ·refine .inr ⟨b,cap,cur,vs,ic,rfl,hb,hc,hm,hs,fun n hn=>⟨hv n hn,?_⟩,fun i y j c _ hy hj=>hr i y j c hy hj,fun i j hi _=>Bool.noConfusion hi,rfl⟩
  obtain⟨i,y,j,c,rfl,_,_,hy,hj⟩:=acr hn
  exact(hr i y j c hy hj).gD
theorem Vg{i i' j j' wd:Nat}(hj:j<wd)(ug:j'<wd)(h:i*wd+j=i'*wd+j'):i=i'/\j=j':=by
 have h1:(i*wd+j)/wd=i:=by rw[Uy,Nat.mul_add_div (by omega)];simp[zez hj]
 have h2:(i'*wd+j')/wd=i':=by rw[Uy,Nat.mul_add_div (by omega)];simp[zez ug]
 have:i=i':=by rw[<-h1,<-h2,h]
 subst this
 exact⟨rfl,by omega⟩
theorem akf{s n N:Nat}(h:s+n<=N):(List.range' s n).Sublist (List.range' 0 N):=by
 have e1:List.range' 0 s++List.range' (0+s) (N-s)=List.range' 0 (s+(N-s)):=List.range'_append_1
 have e2:List.range' s n++List.range' (s+n) (N-s-n)=List.range' s (n+(N-s-n)):=List.range'_append_1
 rw[show n+(N-s-n)=N-s by omega] at e2
 rw[vf,<-e2,show s+(N-s)=N by omega] at e1
 rw[<-e1]
 exact(zer _ _).trans (zem _ _)
theorem eW.out{dead:Nat->Bool}{x:jh U}{v:Value}{l:List Nat}(h:eW E w F dead x v l)(qD:l.Nodup){i off n:Nat}(hi:i<x.xs.length)(Ut:dead i=false)(hle:off+n<=U.wd x.τ):
  ∃(b cap:Nat)(us:List Value)(gl:List (List Nat))(l':List Nat),v=.slice (some ⟨b,0,none⟩) x.xs.length cap/\us.length=n/\gl.length=n/\w.rangeAt b (i*U.wd x.τ+off) us/\
   (∀(j:Nat)(c:U.C),(((U.enc x.τ (x.xs.getD i (U.fq x.τ))).drop off).take n)[j]? =some c->Rp E w F true c (us.getD j undef) (gl.getD j []))/\
   eW E w F (fun j=>Nat.beq j i||dead j) x v l'/\(gl.flatten++l').Nodup/\∀b∈gl.flatten++l',b∈l:=by
 rcases h with⟨h0,_⟩|⟨b,cap,cur,vs,ic,rfl,hb,hc,hm,hs,hv,hr,kY,rfl⟩
 ·rw[h0] at hi;simp at hi
 have wg:=fM (d:=U.fq x.τ) hi
 have qE:∀j,j<U.wd x.τ->i*U.wd x.τ+j<x.xs.length*U.wd x.τ:=fun j hj=>
  fU wg (c:=(U.enc x.τ (x.xs.getD i (U.fq x.τ)))[j]'(by rw[U.dK];exact hj)) (fH _)
 rw[tS] at qD
 obtain⟨QP,hnf⟩:=qD
 let kG:Nat->List Nat:=fun m=>if i*U.wd x.τ<=m/\m<i*U.wd x.τ+U.wd x.τ then[] else ic m
 have rO:∀m,i*U.wd x.τ<=m/\m<i*U.wd x.τ+U.wd x.τ->kG m=[]:=fun m hm=>if_pos hm
 have Sz:∀m,¬(i*U.wd x.τ<=m/\m<i*U.wd x.τ+U.wd x.τ)->kG m=ic m:=fun m hm=>if_neg hm
 have qf:((List.range (x.xs.length*U.wd x.τ)).flatMap kG).Sublist ((List.range (x.xs.length*U.wd x.τ)).flatMap ic):=ZC fun m _=>by
  simp only[kG];split
  ·exact List.nil_sublist _
  ·exact WI _
 have EA:∀j,off+j<U.wd x.τ->∀b',b'∈ic (i*U.wd x.τ+(off+j))->b'∈(List.range (x.xs.length*U.wd x.τ)).flatMap ic:=fun j hj b' bg=>ow.2 ⟨_,pq.2 (qE _ hj),bg⟩
 have Sw:((List.range n).map fun j=>ic (i*U.wd x.τ+(off+j))).flatten=(List.range n).flatMap fun j=>ic (i*U.wd x.τ+(off+j)):=by rw[O6]
 have adZ:∀m m',m<x.xs.length*U.wd x.τ->m'<x.xs.length*U.wd x.τ->m≠m'->∀b',b'∈ic m->b'∉ic m':=fun m m' hm vw fg b' bg=>Rw hnf (pq.2 hm) (pq.2 vw) fg bg
 refine⟨b,cap,(List.range n).map fun j=>vs (i*U.wd x.τ+(off+j)),(List.range n).map fun j=>ic (i*U.wd x.τ+(off+j)),b::(List.range (x.xs.length*U.wd x.τ)).flatMap kG,rfl,by simp,by simp,fun j u hu=> ?_,fun j c hj=> ?_,?_,?_,?_⟩
 ·rw[nO] at hu
  by_cases hjn:j<n
  ·rw[NN hjn] at hu
   simp only[FR,gJ] at hu
   rw[cell_of_row w b _ cur _ (0,0) hb,<-hu,show i*U.wd x.τ+off+j=i*U.wd x.τ+(off+j) by omega]
   exact(hv _ (qE _ (by omega))).1
  ·rw[ox (by simp;omega)] at hu;cases hu
 ·have hjn:j<n:=by
   rw[qa] at hj
   split at hj
   ·assumption
   ·cases hj
  rw[qa,if_pos hjn,Hu] at hj
  have:=hr i _ (off+j) c Ut wg hj
  rw[eX,nO,NN hjn,eX,nO,NN hjn]
  exact this
 ·refine .inr ⟨b,cap,cur,vs,kG,rfl,hb,hc,hm,hs,hv,fun k y j c hk hy hj=> ?_,fun k j hk hj=> ?_,rfl⟩
  ·simp only[QL] at hk
   have VX:k≠i:=fun e=>by subst e;simp at hk
   have P9:j<U.wd x.τ:=by
    rw[<-U.dK x.τ y]
    rcases pa j (U.enc x.τ y).length with h|h
    ·exact h
    ·rw[ox h] at hj;cases hj
   rw[Sz _ (fun qg=>VX (Vg P9 (show k*U.wd x.τ+j-i*U.wd x.τ<U.wd x.τ by omega) (by omega)).1)]
   exact hr k y j c hk.2 hy hj
  ·by_cases VX:k=i
   ·subst VX
    exact rO _ ⟨by omega,by omega⟩
   ·rw[Sz _ (fun qg=>VX (Vg hj (show k*U.wd x.τ+j-i*U.wd x.τ<U.wd x.τ by omega) (by omega)).1)]
    refine kY k j ?_ hj
    rw[FL] at hk
    exact hk.resolve_left (fun e=>VX (by simpa using e))
 ·rw[Sw,rz]
  refine⟨?_,tS.2 ⟨fun bg=>QP (qf.subset bg),qf.nodup hnf⟩,fun b1 tZ b2 tY he=> ?_⟩
  ·have hs2:((List.range n).map fun j=>i*U.wd x.τ+(off+j)).Sublist (List.range (x.xs.length*U.wd x.τ)):=by
    have e1:(List.range n).map (fun j=>i*U.wd x.τ+(off+j))=List.range' (i*U.wd x.τ+off) n:=by
     rw[List.range'_eq_map_range]
     exact QK fun j _=>by omega
    rw[e1,List.range_eq_range']
    have iH:=qE (U.wd x.τ-1) (by have:=U.la x.τ;omega)
    exact akf (by have:=U.la x.τ;omega)
   have:((List.range n).flatMap fun j=>ic (i*U.wd x.τ+(off+j)))=((List.range n).map fun j=>i*U.wd x.τ+(off+j)).flatMap ic:=by rw[List.flatMap_map]
   rw[this]
   have hs3:∀{l1 l2:List Nat},l1.Sublist l2->(l1.flatMap ic).Sublist (l2.flatMap ic):=by
    intro l1 l2 hh
    induction hh with
    |slnil=>exact WI _
    |cons y _ ih=>rw[zt];exact ih.trans (zem _ _)
    |cons_cons y _ ih=>rw[zt,zt];exact List.Sublist.append (WI _) ih
   exact(hs3 hs2).nodup hnf
  ·subst he
   obtain⟨j,hj,tZ⟩:=ow.1 tZ
   rw[pq] at hj
   rcases kf.1 tY with rfl|tY
   ·exact QP (EA j (by omega) _ tZ)
   ·obtain⟨m,vw,tY⟩:=ow.1 tY
    rw[pq] at vw
    by_cases qg:i*U.wd x.τ<=m/\m<i*U.wd x.τ+U.wd x.τ
    ·rw[rO m qg] at tY;cases tY
    ·rw[Sz m qg] at tY
     exact adZ _ m (qE _ (by omega)) vw (fun e=>qg (by omega)) b1 tZ tY
 ·intro b' bg
  rcases jO.1 bg with bg|bg
  ·rw[Sw] at bg
   obtain⟨j,hj,bg⟩:=ow.1 bg
   rw[pq] at hj
   exact cI _ (EA j (by omega) _ bg)
  ·rcases kf.1 bg with rfl|bg
   ·exact gB
   ·exact cI _ (qf.subset bg)
theorem cQ.split(h:cQ E pm F kv fp σ a w){o:Oper}(hd:∀d,o.dst=some d->d<σ.n)(D:fA U)(k:Key)(e0 e:i_ U)(nE:σ.bM k=some e0)(sv:SV U)(ps:List Prop)(v:Value)(l':List Nat)
  (Om:(D.map (·.1)).Nodup)
  (od:∀s∈D,¬Names σ (o.dst.getD 1000000,s.1)) (uf:Names σ k)
  (Ey:∀kv' fp' bad,(∀s∈D,kv' (o.dst.getD 1000000,s.1)=s.2.2.1)->RS E w F kv' fp' bad sv v)
  (hD:∀s∈D,∀kv fp bad,tH E w F kv fp bad s.2.1 s.2.2.1 s.2.2.2)
  (hE:∀kv' fp' bad,tH E w F kv' fp' bad e (kv k) l')
  (qD:(D.bl++l').Nodup) (qg:∀b∈D.bl++l',b∈fp k):
  ∃kv fp,cQ E pm F kv fp (AM.apply o ⟨some sv,D.es,[],[(k,e)],ps⟩ σ) (a.put o.dst v) w:=by
 generalize hr:(⟨some sv,D.es,[],[(k,e)],ps⟩:cm U)=r
 have kF:∀k',k'∈eo o r↔∃s∈D,k'=(o.dst.getD 1000000,s.1):=by
  intro k'
  rw[<-hr]
  simp only[eo,fA.es,l_]
  constructor
  ·rintro⟨p,⟨s,hs,rfl⟩,rfl⟩;exact⟨s,hs,rfl⟩
  ·rintro⟨s,hs,rfl⟩;exact⟨_,⟨s,hs,rfl⟩,rfl⟩
 have kX:jY r=[k]:=by rw[<-hr];rfl
 have zZ:r.lD=[]:=by rw[<-hr]
 have Su:k∉eo o r:=fun hk=>by
  obtain⟨s,hs,rfl⟩:=(kF k).1 hk
  exact od s hs uf
 have kl:∀k',k'∉eo o r->D.Bw (o.dst.getD 1000000) kv k'=kv k'/\D.Ac (o.dst.getD 1000000) (dQ fp k l') k'=dQ fp k l' k':=by
  intro k' db
  exact fA.other (fun t ht e=>db ((kF k').2 ⟨t,ht,e⟩)) kv (dQ fp k l')
 have V6:∀s∈D,D.Bw (o.dst.getD 1000000) kv (o.dst.getD 1000000,s.1)=s.2.2.1/\D.Ac (o.dst.getD 1000000) (dQ fp k l') (o.dst.getD 1000000,s.1)=s.2.2.2:=fun s hs=>⟨fA.xV Om hs,fA.vA Om hs⟩
 rw[rz] at qD
 obtain⟨Sq,VR,VQ⟩:=qD
 have hm:∀b∈fp k,¬F b/\(pm.W b\/pm.w0.heap.size<=b)/\b<w.heap.size:=fun b hb=>h.fV k e0 b nE hb
 refine⟨D.Bw (o.dst.getD 1000000) kv,D.Ac (o.dst.getD 1000000) (dQ fp k l'),?_⟩
 refine h.apply (F':=F) (w':=w) o r v hd ?_ (fun k' db=>(kl k' db).1) ?_ ?_ (fun b hb=>⟨hb,rfl⟩) (fun _ _ _ _ _ _ _ _=>rfl) ?_ ?_ ?_ h.uc h.ub h.upto (tR _)
 ·intro sv' aan
  rw[<-hr] at aan
  simp only[gJ] at aan
  subst aan
  exact Ey _ _ _ fun s hs=>(V6 s hs).1
 ·intro k' h1 h2
  rw[(kl k' h1).2]
  rw[kX] at h2
  exact Bu (by simpa using h2)
 ·intro k' db
  obtain⟨s,hs,rfl⟩:=(kF k').1 db
  exact od s hs
 ·rintro k' e' (⟨j,rfl,hj⟩|db)
  ·rw[<-hr] at hj
   simp only[fA.es,l_] at hj
   obtain⟨s,hs,hj⟩:=hj
   obtain⟨rfl,rfl⟩:=Prod.mk.inj hj
   rw[(V6 s hs).1,(V6 s hs).2]
   exact⟨hD s hs _ _ _,fA.yL Sq hs,fun b hb=>hm b (qg b (sh _ (fA.pX.2 ⟨s,hs,hb⟩)))⟩
  ·rw[<-hr] at db
   simp only[mF,pb] at db
   obtain⟨rfl,rfl⟩:=db
   rw[(kl k' Su).1,(kl k' Su).2,tU]
   exact⟨hE _ _ _,VR,fun b hb=>hm b (qg b (rb _ hb))⟩
 ·intro k' e' b _ _ _ he hb;exact(h.fV k' e' b he hb).1
 ·intro k1 k2 b fg z0 lm hb
  rw[kX,zZ] at lm
  rw[kX] at z0
  have key:∀k',(k'∈eo o r\/k'∈[k])->∀b∈D.Ac (o.dst.getD 1000000) (dQ fp k l') k',b∈fp k/\((∃s∈D,k'=(o.dst.getD 1000000,s.1)/\b∈s.2.2.2)\/(k'=k/\b∈l')):=by
   intro k' db b hb
   rcases db with db|db
   ·obtain⟨s,hs,rfl⟩:=(kF k').1 db
    rw[(V6 s hs).2] at hb
    exact⟨qg b (sh _ (fA.pX.2 ⟨s,hs,hb⟩)),.inl ⟨s,hs,rfl,hb⟩⟩
   ·have:=mF.1 db
    subst this
    rw[(kl k' Su).2,tU] at hb
    exact⟨qg b (rb _ hb),.inr ⟨rfl,hb⟩⟩
  obtain⟨g1,g2⟩:=key k1 z0 b hb
  intro bg
  rcases lm with lm|lm|⟨_,lm⟩
  ·obtain⟨_,g4⟩:=key k2 (.inl lm) b bg
   rcases g2 with⟨s,hs,rfl,Us⟩|⟨rfl,Qe⟩
   ·rcases g4 with⟨s',ky,rfl,By⟩|⟨rfl,Gg⟩
    ·exact fA.rW Sq hs ky (fun e=>fg (by rw[e])) Us By
    ·exact VQ b (fA.pX.2 ⟨s,hs,Us⟩) b Gg rfl
   ·rcases g4 with⟨s',ky,rfl,By⟩|⟨rfl,Gg⟩
    ·exact VQ b (fA.pX.2 ⟨s',ky,By⟩) b Qe rfl
    ·exact fg rfl
  ·obtain⟨_,g4⟩:=key k2 (.inr lm) b bg
   rcases g2 with⟨s,hs,rfl,Us⟩|⟨rfl,Qe⟩
   ·rcases g4 with⟨s',ky,rfl,By⟩|⟨rfl,Gg⟩
    ·exact fA.rW Sq hs ky (fun e=>fg (by rw[e])) Us By
    ·exact VQ b (fA.pX.2 ⟨s,hs,Us⟩) b Gg rfl
   ·rcases g4 with⟨s',ky,rfl,By⟩|⟨rfl,Gg⟩
    ·exact VQ b (fA.pX.2 ⟨s',ky,By⟩) b Qe rfl
    ·exact fg rfl
  ·by_cases aaM:k2∈eo o r
   ·obtain⟨_,g4⟩:=key k2 (.inl aaM) b bg
    rcases g2 with⟨s,hs,rfl,Us⟩|⟨rfl,Qe⟩
    ·rcases g4 with⟨s',ky,rfl,By⟩|⟨rfl,Gg⟩
     ·exact fA.rW Sq hs ky (fun e=>fg (by rw[e])) Us By
     ·exact VQ b (fA.pX.2 ⟨s,hs,Us⟩) b Gg rfl
    ·rcases g4 with⟨s',ky,rfl,By⟩|⟨rfl,Gg⟩
     ·exact VQ b (fA.pX.2 ⟨s',ky,By⟩) b Qe rfl
     ·exact fg rfl
   ·by_cases VY:k2=k
    ·obtain⟨_,g4⟩:=key k2 (.inr (by simp[VY])) b bg
     rcases g2 with⟨s,hs,rfl,Us⟩|⟨rfl,Qe⟩
     ·rcases g4 with⟨s',ky,rfl,By⟩|⟨rfl,Gg⟩
      ·exact aaM ((kF _).2 ⟨s',ky,rfl⟩)
      ·exact VQ b (fA.pX.2 ⟨s,hs,Us⟩) b Gg rfl
     ·exact fg VY.symm
    ·rw[(kl k2 aaM).2,Bu VY] at bg
     obtain⟨e2,tX⟩:=m8.1 lm
     exact h.apart k k2 e0 e2 b (Ne.symm VY) nE tX g1 bg
theorem akB(h:cQ E pm F kv fp σ a w){o:Oper}{t:TypeId}{x:Operand}{sx:SV U}{y:AC U}{n:Nat}{g:Bool}{ks:List Key}{r:cm U}(ho:o.op=.load t x)
  (hx:RS E w F kv fp (bR σ) sx (a.eval x)) (hc:u5 sx=some y) (hs:E.size t=some n) (hg:E.isAgg t=some g)
  (hr:Ep (restrict σ.bM ks) g n y=some r) (hp:∀p∈r.pre,p):∃sv ps,r=⟨some sv,[],[],[],ps⟩/\cK E F kv fp (bR σ) a w o sv:=by
 have hx:=li hx hc
 unfold Ep at hr
 split at hr
 rotate_left
 ·cases hr
 rename_i k i wd off
 split at hr
 rotate_left
 ·cases hr
 rename_i x0 he
 have fo:=kj he
 rw[iu] at hr
 split at hr
 rotate_left
 ·cases hr
 rename_i hb
 simp only[cO] at hb
 obtain⟨⟨P_,hle⟩,vt⟩:=hb
 have hle:=JZ hle
 have vt:=nc vt
 subst vt
 cases hr
 refine⟨_,_,rfl,?_⟩
 have hi:i<x0.xs.length:=hp _ (by simp[cm.cP])
 have oa:fi E w F false x0 (kv k) (fp k):=h.dV k _ fo
 obtain⟨bb,oo,nn,cc,oc,hv⟩:=cw hx (by simp[iX])
 simp only[pe] at oc
 rcases oa with⟨h0,_⟩|⟨b,cap,cur,vs,ic,h1,h2,h3,h4,h5,h6,h7,_⟩
 ·rw[h0] at hi;simp at hi
 rw[h1] at oc
 simp only[Value.slice.injEq,gJ,Addr.mk.injEq,and_true] at oc
 obtain⟨⟨rfl,rfl⟩,_,_⟩:=oc
 rw[vf] at hv
 have wg:=fM (d:=U.fq x0.τ) hi
 have SH:∀j,j<U.wd x0.τ->∃c,(U.enc x0.τ (x0.xs.getD i (U.fq x0.τ)))[j]? =some c:=fun j hj=>by
  have ug:j<(U.enc x0.τ (x0.xs.getD i (U.fq x0.τ))).length:=by rw[U.dK];exact hj
  exact⟨_,fH ug⟩
 have sQ:∀j u,((List.range n).map fun j=>vs (i*U.wd x0.τ+(off+j)))[j]? =some u->j<n/\u=vs (i*U.wd x0.τ+(off+j)):=fun j u hu=>by
  rw[nO] at hu
  by_cases hj:j<n
  ·rw[NN hj] at hu
   exact⟨hj,by simpa using hu.symm⟩
  ·rw[ox (by simp;omega)] at hu;cases hu
 obtain⟨v,hv1,hv2⟩:=U5 (us:=(List.range n).map fun j=>vs (i*U.wd x0.τ+(off+j))) (b:=bb) (off:=i*U.wd x0.τ+off) hs hg P_ (by simp) (fun j u hu=>by
  obtain⟨hj,rfl⟩:=sQ j u hu
  obtain⟨c,Gf⟩:=SH (off+j) (by omega)
  rw[cell_of_row w bb _ cur _ (0,0) h2,<-h6 _ (fU wg Gf)]
  congr 1;omega)
 refine⟨v,by unfold execOp;simp only[ho,hv];exact iQ hv1,_,?_,hv2⟩
 refine Uc (by simp[U.dK];omega) fun j y u hy hu=> ?_
 obtain⟨hj,rfl⟩:=sQ j u hu
 rw[nO] at hy
 obtain⟨c,Gf⟩:=SH (off+j) (by omega)
 have Qd:(((U.enc x0.τ (x0.xs.getD i (U.fq x0.τ))).drop off).take n)[j]? =some c:=by rw[qa,if_pos hj,Hu];exact Gf
 rw[Qd] at hy
 simp only[FR,gJ] at hy
 subst hy
 have kk:=h7 i _ (off+j) c wg Gf
 have h0:ic (i*U.wd x0.τ+(off+j))=[]:=by
  generalize ic (i*U.wd x0.τ+(off+j))=l at kk
  generalize vs (i*U.wd x0.τ+(off+j))=u at kk
  cases kk<;>rfl
 rw[h0] at kk
 exact⟨kk.gD,.inr kk⟩
theorem akw(h:cQ E pm F kv fp σ a w){o:Oper}(hd:∀d,o.dst=some d->d<σ.n){t:TypeId}{x:Operand}{sx:SV U}{y:AC U}{n:Nat}{g:Bool}{ks:List Key}{r:cm U}(ho:o.op=.load t x)
  (hx:RS E w F kv fp (bR σ) sx (a.eval x)) (hc:u5 sx=some y) (vv:∀k∈y.keys,Names σ k) (hs:E.size t=some n) (hg:E.isAgg t=some g)
  (hr:M1 (restrict σ.bM ks) (o.dst.getD 1000000) g n y=some r) (hp:∀p∈r.pre,p) (od:∀k∈eo o r,¬Names σ k)
  {next:Act->World->Prop} {Q:Exit->Act->World->Prop} (hn:∀F kv fp a' w',cQ E pm F kv fp (AM.apply o r σ) a' w'->next a' w'):o.wp E.P a w next Q:=by
 have hx:=li hx hc
 unfold M1 at hr
 split at hr
 rotate_left
 ·cases hr
 rename_i k i wd off
 split at hr
 rotate_left
 ·cases hr
 rename_i x0 dead he
 have fo:=kj he
 rw[iu] at hr
 split at hr
 rotate_left
 ·cases hr
 rename_i hb
 simp only[cO] at hb
 obtain⟨⟨P_,hle⟩,vt⟩:=hb
 have hle:=JZ hle
 have vt:=nc vt
 subst vt
 simp only at hr
 have M':i<x0.xs.length/\dead i=false:=by
  rw[iu] at hr
  split at hr
  ·cases hr;exact⟨hp _ (by simp[cm.cP]),hp _ (by simp[cm.cP])⟩
  ·rw[iu] at hr
   split at hr
   ·cases hr;exact⟨hp _ (by simp[cm.cP]),hp _ (by simp[cm.cP])⟩
   rw[iu] at hr
   split at hr
   ·cases hr;exact⟨hp _ (by simp),hp _ (by simp)⟩
   ·cases hr
 obtain⟨hi,Ut⟩:=M'
 have oa:eW E w F dead x0 (kv k) (fp k):=h.dV k _ fo
 obtain⟨b,cap,us,gl,l',h1,h2,h3,h4,h5,h6,h7,h8⟩:=oa.out (h.nodup k _ fo) hi Ut hle
 obtain⟨bb,oo,nn,cc,oc,hv⟩:=cw hx (by simp[iX])
 simp only[pe] at oc
 rw[h1] at oc
 simp only[Value.slice.injEq,gJ,Addr.mk.injEq,and_true] at oc
 obtain⟨⟨rfl,rfl⟩,_,_⟩:=oc
 rw[vf] at hv
 obtain⟨v,hv1,hv2⟩:=U5 hs hg P_ h2 h4
 have jz:(execOp a.eval o).run E.P w=.ok (.value v) w:=by unfold execOp;simp only[ho,hv];exact iQ hv1
 have iH:(((U.enc x0.τ (x0.xs.getD i (U.fq x0.τ))).drop off).take n).length=n:=by simp[U.dK];omega
 rw[iu] at hr
 split at hr
 ·rename_i A7
  cases hr
  refine sH jz (hn F kv fp _ _ (h.val o _ _ v hd (fun sv Ey=> ?_)))
  cases Ey
  refine⟨us,?_,hv2⟩
  exact MR (by rw[h2,iH]) fun j c hj=>by
   obtain⟨u,rfl⟩:=UZ A7 j c hj
   exact(h5 j _ hj).H0
 ·rw[iu] at hr
  split at hr
  ·cases hr
   refine sH jz (hn F kv fp _ _ (h.val o _ _ v hd (fun sv Ey=> ?_)))
   cases Ey
   refine⟨us,Uc (by rw[Vd,h2,iH]) (fun j' y' u hy hu=> ?_),hv2⟩
   obtain⟨c,Gf,Qd⟩:=Ve hy
   have kk:=h5 j' c Gf
   have sN:us.getD j' undef=u:=by rw[eX,hu];rfl
   rw[sN] at kk
   rcases Qd with⟨v',rfl,rfl⟩|⟨Gk,xs',rfl,rfl⟩
   ·obtain⟨_,e2,e3⟩:=kk.mJ
    subst e2
    exact⟨kk.gD,.inr (.lit _ _ e3)⟩
   ·refine⟨kk.gD,.inr ?_⟩
    have jg:bb∈fp k:=by
     rcases oa with⟨h0,_⟩|⟨b',apy,cur',wc,kG,g1,_,_,_,_,_,_,_,g9⟩
     ·rw[h0] at hi;simp at hi
     ·rw[h1] at g1
      simp only[Value.slice.injEq,gJ,Addr.mk.injEq,and_true] at g1
      rw[g9,<-g1.1];simp
    refine⟨bb,0,_,cap,u,h1,.inr jg,?_,rfl⟩
    rw[vf,<-QX]
    exact h4 j' u hu
  rw[iu] at hr
  split at hr
  rotate_left
  ·cases hr
  rename_i sT
  have GP:=YY hr
  obtain⟨D,d1,d2,d3,d4⟩:=Ks (dst:=o.dst.getD 1000000) (base:=0) (vs:=us) (fl:=gl) (h2.trans iH.symm) (h3.trans iH.symm) h5
  have WZ:=h.split (o:=o) hd D k _ (.part x0 (fun j=>Nat.beq j i||dead j)) fo (.v ⟨g,(putCells (o.dst.getD 1000000) true 0 (((U.enc x0.τ (x0.xs.getD i (U.fq x0.τ))).drop off).take n)).1⟩) [i<x0.xs.length,dead i=false] v l' ?_ ?_ (vv k (by simp[AC.keys])) ?_ d2 ?_ (by rw[d3];exact h7) (by rw[d3];exact h8)
  ·obtain⟨kv',fp',oJ⟩:=WZ
   refine sH jz (hn F kv' fp' _ _ ?_)
   rw[<-GP,d1];exact oJ
  ·have:=ada.1 sT
   rw[d1] at this
   simpa[fA.es,Function.comp_def] using this
  ·intro s hs
   refine od _ ?_
   rw[<-GP]
   simp only[eo,d1,fA.es,l_]
   exact⟨_,⟨s,hs,rfl⟩,rfl⟩
  ·intro kv' fp' bad hk
   exact⟨us,d4 kv' fp' bad hk,hv2⟩
  ·intro kv' fp' bad
   exact h6
theorem acF(h:cQ E pm F kv fp σ a w){ks:List Key}{y:AC U}{v:Value}{b:jh U}(hr:partOf (restrict σ.bM ks) y=some b)(hx:RD E w F kv fp (bR σ) y v):
  ∃k dead,y=.ref k []/\v=kv k/\eW E w F dead b v (fp k):=by
 unfold partOf at hr
 split at hr
 ·rename_i k
  split at hr
  ·rename_i x dead he
   cases hr
   have h1:v=kv k:=cw hx rfl
   subst h1
   exact⟨k,dead,rfl,rfl,h.dV k _ (kj he)⟩
  ·cases hr
 ·cases hr
theorem eW.slice{dead:Nat->Bool}{x:jh U}{v:Value}{l:List Nat}(h:eW E w F dead x v l):∃ad c,v=.slice ad x.xs.length c/\x.xs.length<=maxLen:=by
 rcases h with⟨h0,⟨ad,rfl⟩,_⟩|⟨b,cap,cur,vs,ic,rfl,_,hc,hm,_⟩
 ·exact⟨ad,0,by simp[h0],by simp[h0]⟩
 ·exact⟨_,_,rfl,xo hc hm⟩
theorem akI(h:cQ E pm F kv fp σ a w){o:Oper}{t:TypeId}{x y:Operand}{sx sy:SV U}{k:Key}{ks:List Key}{kd:IntKind}{n:Int}{m:Nat}{b:jh U}(ho:o.op=.indexAddr t x y)
  (hx:RS E w F kv fp (bR σ) sx (a.eval x)) (hc:u5 sx=some (.ref k [])) (hy:RS E w F kv fp (bR σ) sy (a.eval y)) (hl:jj sy=some (.int kd n)) (hm:(E.elem t).bind E.size=some m)
  (ha:partOf (restrict σ.bM ks) (.ref k [])=some b) (hw:m=U.wd b.τ)
  (h1:0<=n) (h2:n.toNat<b.xs.length):cK E F kv fp (bR σ) a w o (one (.lK k [] n.toNat (U.wd b.τ) 0)):=by
 obtain⟨e,i,hu,hi,hs⟩:=pP hm
 have h3:=qd hy hl
 have BQ:=li hx hc
 obtain⟨k',dead,hk,Sh,oa⟩:=acF h ha BQ
 cases hk
 rcases oa with⟨h0,_⟩|⟨b',cap,cur,vs,ic,h4,_⟩
 ·rw[h0] at h2;simp at h2
 ·refine⟨.pointer (some ⟨b',0+n.toNat*U.wd b.τ,none⟩),?_,iD ⟨⟨rfl,trivial⟩,.inr ⟨b',0,b.xs.length,cap,?_,by simp⟩⟩⟩
  ·unfold execOp;simp only[ho,h3,h4]
   rw[<-hw,<-hs]
   exact iQ (ZR hu hi h1 h2)
  ·simp only[pe];rw[<-Sh,h4]
end AM
