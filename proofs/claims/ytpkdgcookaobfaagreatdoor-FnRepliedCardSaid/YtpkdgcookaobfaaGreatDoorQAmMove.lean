/- THE ABSTRACT MACHINE: an element that is moved out of a row. -/
import Derived.Test.YtpkdgcookaobfaaGreatDoorQAmCall3
namespace AM
set_option linter.unusedVariables false
open Go
variable{U:lz}{E:Env U}{pm:Pm}
variable{F F':Nat->Prop}{kv:Key->Value}{fp:Key->List Nat}{σ:ak U}{a:Act}{w w':World}{bad:Key->Bool}
theorem ZW{α:Type}{f g:α->List Nat}:∀{l:List α},(∀x∈l,(f x).Sublist (g x))->(l.flatMap f).Sublist (l.flatMap g)
 |[],_=>WQ _
 |x::l,h=>by
  rw[zB,zB]
  exact List.Sublist.append (h x iy) (ZW fun y hy=>h y (fA _ hy))
theorem acW{τ:U.Ty}{xs:List (U.T τ)}{n:Nat}(hn:n<xs.length*U.wd τ):∃i x j c,n=i*U.wd τ+j/\j<U.wd τ/\i<xs.length/\xs[i]? =some x/\(U.enc τ x)[j]? =some c:=by
 have hw:=U.la τ
 have hi:n/U.wd τ<xs.length:=(Nat.div_lt_iff_lt_mul hw).2 hn
 have hj:n%U.wd τ<U.wd τ:=Nat.mod_lt _ hw
 refine⟨n/U.wd τ,xs[n/U.wd τ],n%U.wd τ,(U.enc τ xs[n/U.wd τ])[n%U.wd τ]'(by rw[U.dz];exact hj),?_,hj,hi,fw hi,fw _⟩
 rw[UB];exact(Nat.div_add_mod n _).symm
theorem e7.part{x:fu U}{v:Value}{l:List Nat}(h:e7 E w F true x v l):eE E w F (fun _=>false) x v l:=by
 rcases h with h|⟨b,cap,cur,vs,hZ,rfl,hb,hc,hm,hs,hv,hr,rfl⟩
 ·exact .inl h
 ·refine .inr ⟨b,cap,cur,vs,hZ,rfl,hb,hc,hm,hs,fun n hn=>⟨hv n hn,?_⟩,fun i y j c _ hy hj=>hr i y j c hy hj,fun i j hi _=>Bool.noConfusion hi,rfl⟩
  obtain⟨i,y,j,c,rfl,_,_,hy,hj⟩:=acW hn
  exact(hr i y j c hy hj).gv
theorem Vj{i i' j j' wd:Nat}(hj:j<wd)(ue:j'<wd)(h:i*wd+j=i'*wd+j'):i=i'/\j=j':=by
 have h1:(i*wd+j)/wd=i:=by rw[UB,Nat.mul_add_div (by omega)];simp[zez hj]
 have h2:(i'*wd+j')/wd=i':=by rw[UB,Nat.mul_add_div (by omega)];simp[zez ue]
 have:i=i':=by rw[<-h1,<-h2,h]
 subst this
 exact⟨rfl,by omega⟩
theorem ak4{s n N:Nat}(h:s+n<=N):(List.range' s n).Sublist (List.range' 0 N):=by
 have e1:List.range' 0 s++List.range' (0+s) (N-s)=List.range' 0 (s+(N-s)):=List.range'_append_1
 have e2:List.range' s n++List.range' (s+n) (N-s-n)=List.range' s (n+(N-s-n)):=List.range'_append_1
 rw[show n+(N-s-n)=N-s by omega] at e2
 rw[vk,<-e2,show s+(N-s)=N by omega] at e1
 rw[<-e1]
 exact(zer _ _).trans (zem _ _)
theorem eE.out{dead:Nat->Bool}{x:fu U}{v:Value}{l:List Nat}(h:eE E w F dead x v l)(qu:l.Nodup){i off n:Nat}(hi:i<x.xs.length)(Uu:dead i=false)(hle:off+n<=U.wd x.τ):
  ∃(b cap:Nat)(us:List Value)(gl:List (List Nat))(l':List Nat),v=.slice (some ⟨b,0,none⟩) x.xs.length cap/\us.length=n/\gl.length=n/\w.rangeAt b (i*U.wd x.τ+off) us/\
   (∀(j:Nat)(c:U.C),(((U.enc x.τ (x.xs.getD i (U.e6 x.τ))).drop off).take n)[j]? =some c->Rp E w F true c (us.getD j undef) (gl.getD j []))/\
   eE E w F (fun j=>Nat.beq j i||dead j) x v l'/\(gl.flatten++l').Nodup/\∀b∈gl.flatten++l',b∈l:=by
 rcases h with⟨h0,_⟩|⟨b,cap,cur,vs,hZ,rfl,hb,hc,hm,hs,hv,hr,kY,rfl⟩
 ·rw[h0] at hi;simp at hi
 have wl:=fF (d:=U.e6 x.τ) hi
 have pi:∀j,j<U.wd x.τ->i*U.wd x.τ+j<x.xs.length*U.wd x.τ:=fun j hj=>
  fP wl (c:=(U.enc x.τ (x.xs.getD i (U.e6 x.τ)))[j]'(by rw[U.dz];exact hj)) (fw _)
 rw[tY] at qu
 obtain⟨QE,hnf⟩:=qu
 let kx:Nat->List Nat:=fun m=>if i*U.wd x.τ<=m/\m<i*U.wd x.τ+U.wd x.τ then[] else hZ m
 have rY:∀m,i*U.wd x.τ<=m/\m<i*U.wd x.τ+U.wd x.τ->kx m=[]:=fun m hm=>if_pos hm
 have Sx:∀m,¬(i*U.wd x.τ<=m/\m<i*U.wd x.τ+U.wd x.τ)->kx m=hZ m:=fun m hm=>if_neg hm
 have qt:((List.range (x.xs.length*U.wd x.τ)).flatMap kx).Sublist ((List.range (x.xs.length*U.wd x.τ)).flatMap hZ):=ZW fun m _=>by
  simp only[kx];split
  ·exact List.nil_sublist _
  ·exact WQ _
 have EK:∀j,off+j<U.wd x.τ->∀b',b'∈hZ (i*U.wd x.τ+(off+j))->b'∈(List.range (x.xs.length*U.wd x.τ)).flatMap hZ:=fun j hj b' bj=>oQ.2 ⟨_,pD.2 (pi _ hj),bj⟩
 have Su:((List.range n).map fun j=>hZ (i*U.wd x.τ+(off+j))).flatten=(List.range n).flatMap fun j=>hZ (i*U.wd x.τ+(off+j)):=by rw[O0]
 have aes:∀m m',m<x.xs.length*U.wd x.τ->m'<x.xs.length*U.wd x.τ->m≠m'->∀b',b'∈hZ m->b'∉hZ m':=fun m m' hm vz eZ b' bj=>Ro hnf (pD.2 hm) (pD.2 vz) eZ bj
 refine⟨b,cap,(List.range n).map fun j=>vs (i*U.wd x.τ+(off+j)),(List.range n).map fun j=>hZ (i*U.wd x.τ+(off+j)),b::(List.range (x.xs.length*U.wd x.τ)).flatMap kx,rfl,by simp,by simp,fun j u hu=> ?_,fun j c hj=> ?_,?_,?_,?_⟩
 ·rw[nT] at hu
  by_cases hjn:j<n
  ·rw[NF hjn] at hu
   simp only[FT,gA] at hu
   rw[cell_of_row w b _ cur _ (0,0) hb,<-hu,show i*U.wd x.τ+off+j=i*U.wd x.τ+(off+j) by omega]
   exact(hv _ (pi _ (by omega))).1
  ·rw[od (by simp;omega)] at hu;cases hu
 ·have hjn:j<n:=by
   rw[qn] at hj
   split at hj
   ·assumption
   ·cases hj
  rw[qn,if_pos hjn,HB] at hj
  have:=hr i _ (off+j) c Uu wl hj
  rw[ez,nT,NF hjn,ez,nT,NF hjn]
  exact this
 ·refine .inr ⟨b,cap,cur,vs,kx,rfl,hb,hc,hm,hs,hv,fun k y j c hk hy hj=> ?_,fun k j hk hj=> ?_,rfl⟩
  ·simp only[QA] at hk
   have V2:k≠i:=fun e=>by subst e;simp at hk
   have PY:j<U.wd x.τ:=by
    rw[<-U.dz x.τ y]
    rcases pe j (U.enc x.τ y).length with h|h
    ·exact h
    ·rw[od h] at hj;cases hj
   rw[Sx _ (fun qv=>V2 (Vj PY (show k*U.wd x.τ+j-i*U.wd x.τ<U.wd x.τ by omega) (by omega)).1)]
   exact hr k y j c hk.2 hy hj
  ·by_cases V2:k=i
   ·subst V2
    exact rY _ ⟨by omega,by omega⟩
   ·rw[Sx _ (fun qv=>V2 (Vj hj (show k*U.wd x.τ+j-i*U.wd x.τ<U.wd x.τ by omega) (by omega)).1)]
    refine kY k j ?_ hj
    rw[FI] at hk
    exact hk.resolve_left (fun e=>V2 (by simpa using e))
 ·rw[Su,rK]
  refine⟨?_,tY.2 ⟨fun bj=>QE (qt.subset bj),qt.nodup hnf⟩,fun b1 uh b2 ug he=> ?_⟩
  ·have hs2:((List.range n).map fun j=>i*U.wd x.τ+(off+j)).Sublist (List.range (x.xs.length*U.wd x.τ)):=by
    have e1:(List.range n).map (fun j=>i*U.wd x.τ+(off+j))=List.range' (i*U.wd x.τ+off) n:=by
     rw[List.range'_eq_map_range]
     exact O1 fun j _=>by omega
    rw[e1,List.range_eq_range']
    have iv:=pi (U.wd x.τ-1) (by have:=U.la x.τ;omega)
    exact ak4 (by have:=U.la x.τ;omega)
   have:((List.range n).flatMap fun j=>hZ (i*U.wd x.τ+(off+j)))=((List.range n).map fun j=>i*U.wd x.τ+(off+j)).flatMap hZ:=by rw[List.flatMap_map]
   rw[this]
   have hs3:∀{l1 l2:List Nat},l1.Sublist l2->(l1.flatMap hZ).Sublist (l2.flatMap hZ):=by
    intro l1 l2 hh
    induction hh with
    |slnil=>exact WQ _
    |cons y _ ih=>rw[zB];exact ih.trans (zem _ _)
    |cons_cons y _ ih=>rw[zB,zB];exact List.Sublist.append (WQ _) ih
   exact(hs3 hs2).nodup hnf
  ·subst he
   obtain⟨j,hj,uh⟩:=oQ.1 uh
   rw[pD] at hj
   rcases jZ.1 ug with rfl|ug
   ·exact QE (EK j (by omega) _ uh)
   ·obtain⟨m,vz,ug⟩:=oQ.1 ug
    rw[pD] at vz
    by_cases qv:i*U.wd x.τ<=m/\m<i*U.wd x.τ+U.wd x.τ
    ·rw[rY m qv] at ug;cases ug
    ·rw[Sx m qv] at ug
     exact aes _ m (pi _ (by omega)) vz (fun e=>qv (by omega)) b1 uh ug
 ·intro b' bj
  rcases jC.1 bj with bj|bj
  ·rw[Su] at bj
   obtain⟨j,hj,bj⟩:=oQ.1 bj
   rw[pD] at hj
   exact fA _ (EK j (by omega) _ bj)
  ·rcases jZ.1 bj with rfl|bj
   ·exact iy
   ·exact fA _ (qt.subset bj)
theorem cM.split(h:cM E pm F kv fp σ a w){o:Oper}(hd:∀d,o.dst=some d->d<σ.n)(D:fi U)(k:Key)(e0 e:iN U)(nK:σ.bO k=some e0)(sv:SV U)(ps:List Prop)(v:Value)(l':List Nat)
  (Og:(D.map (·.1)).Nodup)
  (ov:∀s∈D,¬Names σ (o.dst.getD 1000000,s.1)) (uo:Names σ k)
  (EI:∀kv' fp' bad,(∀s∈D,kv' (o.dst.getD 1000000,s.1)=s.2.2.1)->RS E w F kv' fp' bad sv v)
  (hD:∀s∈D,∀kv fp bad,tP E w F kv fp bad s.2.1 s.2.2.1 s.2.2.2)
  (hE:∀kv' fp' bad,tP E w F kv' fp' bad e (kv k) l')
  (qu:(D.bl++l').Nodup) (qv:∀b∈D.bl++l',b∈fp k):
  ∃kv fp,cM E pm F kv fp (AM.apply o ⟨some sv,D.es,[],[(k,e)],ps⟩ σ) (a.put o.dst v) w:=by
 generalize hr:(⟨some sv,D.es,[],[(k,e)],ps⟩:cn U)=r
 have kw:∀k',k'∈dR o r↔∃s∈D,k'=(o.dst.getD 1000000,s.1):=by
  intro k'
  rw[<-hr]
  simp only[dR,fi.es,mf]
  constructor
  ·rintro⟨p,⟨s,hs,rfl⟩,rfl⟩;exact⟨s,hs,rfl⟩
  ·rintro⟨s,hs,rfl⟩;exact⟨_,⟨s,hs,rfl⟩,rfl⟩
 have kX:jQ r=[k]:=by rw[<-hr];rfl
 have z_:r.lG=[]:=by rw[<-hr]
 have Ss:k∉dR o r:=fun hk=>by
  obtain⟨s,hs,rfl⟩:=(kw k).1 hk
  exact ov s hs uo
 have j7:∀k',k'∉dR o r->D.BE (o.dst.getD 1000000) kv k'=kv k'/\D.Af (o.dst.getD 1000000) (dD fp k l') k'=dD fp k l' k':=by
  intro k' cU
  exact fi.other (fun t ht e=>cU ((kw k').2 ⟨t,ht,e⟩)) kv (dD fp k l')
 have V_:∀s∈D,D.BE (o.dst.getD 1000000) kv (o.dst.getD 1000000,s.1)=s.2.2.1/\D.Af (o.dst.getD 1000000) (dD fp k l') (o.dst.getD 1000000,s.1)=s.2.2.2:=fun s hs=>⟨fi.x_ Og hs,fi.vB Og hs⟩
 rw[rK] at qu
 obtain⟨Sm,VU,VT⟩:=qu
 have hm:∀b∈fp k,¬F b/\(pm.W b\/pm.w0.heap.size<=b)/\b<w.heap.size:=fun b hb=>h.fQ k e0 b nK hb
 refine⟨D.BE (o.dst.getD 1000000) kv,D.Af (o.dst.getD 1000000) (dD fp k l'),?_⟩
 refine h.apply (F':=F) (w':=w) o r v hd ?_ (fun k' cU=>(j7 k' cU).1) ?_ ?_ (fun b hb=>⟨hb,rfl⟩) (fun _ _ _ _ _ _ _ _=>rfl) ?_ ?_ ?_ h.uk h.uj h.upto (tX _)
 ·intro sv' aaE
  rw[<-hr] at aaE
  simp only[gA] at aaE
  subst aaE
  exact EI _ _ _ fun s hs=>(V_ s hs).1
 ·intro k' h1 h2
  rw[(j7 k' h1).2]
  rw[kX] at h2
  exact BC (by simpa using h2)
 ·intro k' cU
  obtain⟨s,hs,rfl⟩:=(kw k').1 cU
  exact ov s hs
 ·rintro k' e' (⟨j,rfl,hj⟩|cU)
  ·rw[<-hr] at hj
   simp only[fi.es,mf] at hj
   obtain⟨s,hs,hj⟩:=hj
   obtain⟨rfl,rfl⟩:=Prod.mk.inj hj
   rw[(V_ s hs).1,(V_ s hs).2]
   exact⟨hD s hs _ _ _,fi.yQ Sm hs,fun b hb=>hm b (qv b (sD _ (fi.qe.2 ⟨s,hs,hb⟩)))⟩
  ·rw[<-hr] at cU
   simp only[mI,pq] at cU
   obtain⟨rfl,rfl⟩:=cU
   rw[(j7 k' Ss).1,(j7 k' Ss).2,t_]
   exact⟨hE _ _ _,VU,fun b hb=>hm b (qv b (rv _ hb))⟩
 ·intro k' e' b _ _ _ he hb;exact(h.fQ k' e' b he hb).1
 ·intro k1 k2 b eZ Aa lp hb
  rw[kX,z_] at lp
  rw[kX] at Aa
  have key:∀k',(k'∈dR o r\/k'∈[k])->∀b∈D.Af (o.dst.getD 1000000) (dD fp k l') k',b∈fp k/\((∃s∈D,k'=(o.dst.getD 1000000,s.1)/\b∈s.2.2.2)\/(k'=k/\b∈l')):=by
   intro k' cU b hb
   rcases cU with cU|cU
   ·obtain⟨s,hs,rfl⟩:=(kw k').1 cU
    rw[(V_ s hs).2] at hb
    exact⟨qv b (sD _ (fi.qe.2 ⟨s,hs,hb⟩)),.inl ⟨s,hs,rfl,hb⟩⟩
   ·have:=mI.1 cU
    subst this
    rw[(j7 k' Ss).2,t_] at hb
    exact⟨qv b (rv _ hb),.inr ⟨rfl,hb⟩⟩
  obtain⟨g1,g2⟩:=key k1 Aa b hb
  intro bj
  rcases lp with lp|lp|⟨_,lp⟩
  ·obtain⟨_,g4⟩:=key k2 (.inl lp) b bj
   rcases g2 with⟨s,hs,rfl,Ut⟩|⟨rfl,P7⟩
   ·rcases g4 with⟨s',kl,rfl,BG⟩|⟨rfl,Gg⟩
    ·exact fi.sh Sm hs kl (fun e=>eZ (by rw[e])) Ut BG
    ·exact VT b (fi.qe.2 ⟨s,hs,Ut⟩) b Gg rfl
   ·rcases g4 with⟨s',kl,rfl,BG⟩|⟨rfl,Gg⟩
    ·exact VT b (fi.qe.2 ⟨s',kl,BG⟩) b P7 rfl
    ·exact eZ rfl
  ·obtain⟨_,g4⟩:=key k2 (.inr lp) b bj
   rcases g2 with⟨s,hs,rfl,Ut⟩|⟨rfl,P7⟩
   ·rcases g4 with⟨s',kl,rfl,BG⟩|⟨rfl,Gg⟩
    ·exact fi.sh Sm hs kl (fun e=>eZ (by rw[e])) Ut BG
    ·exact VT b (fi.qe.2 ⟨s,hs,Ut⟩) b Gg rfl
   ·rcases g4 with⟨s',kl,rfl,BG⟩|⟨rfl,Gg⟩
    ·exact VT b (fi.qe.2 ⟨s',kl,BG⟩) b P7 rfl
    ·exact eZ rfl
  ·by_cases aa_:k2∈dR o r
   ·obtain⟨_,g4⟩:=key k2 (.inl aa_) b bj
    rcases g2 with⟨s,hs,rfl,Ut⟩|⟨rfl,P7⟩
    ·rcases g4 with⟨s',kl,rfl,BG⟩|⟨rfl,Gg⟩
     ·exact fi.sh Sm hs kl (fun e=>eZ (by rw[e])) Ut BG
     ·exact VT b (fi.qe.2 ⟨s,hs,Ut⟩) b Gg rfl
    ·rcases g4 with⟨s',kl,rfl,BG⟩|⟨rfl,Gg⟩
     ·exact VT b (fi.qe.2 ⟨s',kl,BG⟩) b P7 rfl
     ·exact eZ rfl
   ·by_cases V3:k2=k
    ·obtain⟨_,g4⟩:=key k2 (.inr (by simp[V3])) b bj
     rcases g2 with⟨s,hs,rfl,Ut⟩|⟨rfl,P7⟩
     ·rcases g4 with⟨s',kl,rfl,BG⟩|⟨rfl,Gg⟩
      ·exact aa_ ((kw _).2 ⟨s',kl,rfl⟩)
      ·exact VT b (fi.qe.2 ⟨s,hs,Ut⟩) b Gg rfl
     ·exact eZ V3.symm
    ·rw[(j7 k2 aa_).2,BC V3] at bj
     obtain⟨e2,uf⟩:=nf.1 lp
     exact h.apart k k2 e0 e2 b (Ne.symm V3) nK uf g1 bj
theorem alp(h:cM E pm F kv fp σ a w){o:Oper}{t:TypeId}{x:Operand}{sx:SV U}{y:AC U}{n:Nat}{g:Bool}{ks:List Key}{r:cn U}(ho:o.op=.load t x)
  (hx:RS E w F kv fp (bW σ) sx (a.eval x)) (hc:vd sx=some y) (hs:E.size t=some n) (hg:E.isAgg t=some g)
  (hr:EA (restrict σ.bO ks) g n y=some r) (hp:∀p∈r.pre,p):∃sv ps,r=⟨some sv,[],[],[],ps⟩/\cF E F kv fp (bW σ) a w o sv:=by
 have hx:=li hx hc
 unfold EA at hr
 split at hr
 rotate_left
 ·cases hr
 rename_i k i wd off
 split at hr
 rotate_left
 ·cases hr
 rename_i x0 he
 have fc:=j0 he
 rw[im] at hr
 split at hr
 rotate_left
 ·cases hr
 rename_i hb
 simp only[cJ] at hb
 obtain⟨⟨P0,hle⟩,vw⟩:=hb
 have hle:=J' hle
 have vw:=nk vw
 subst vw
 cases hr
 refine⟨_,_,rfl,?_⟩
 have hi:i<x0.xs.length:=hp _ (by simp[cn.cL])
 have om:e7 E w F false x0 (kv k) (fp k):=h.dH k _ fc
 obtain⟨bb,oo,nn,cc,ot,hv⟩:=cw hx (by simp[iJ])
 simp only[pu] at ot
 rcases om with⟨h0,_⟩|⟨b,cap,cur,vs,hZ,h1,h2,h3,h4,h5,h6,h7,_⟩
 ·rw[h0] at hi;simp at hi
 rw[h1] at ot
 simp only[Value.slice.injEq,gA,Addr.mk.injEq,and_true] at ot
 obtain⟨⟨rfl,rfl⟩,_,_⟩:=ot
 rw[vk] at hv
 have wl:=fF (d:=U.e6 x0.τ) hi
 have SF:∀j,j<U.wd x0.τ->∃c,(U.enc x0.τ (x0.xs.getD i (U.e6 x0.τ)))[j]? =some c:=fun j hj=>by
  have ue:j<(U.enc x0.τ (x0.xs.getD i (U.e6 x0.τ))).length:=by rw[U.dz];exact hj
  exact⟨_,fw ue⟩
 have sY:∀j u,((List.range n).map fun j=>vs (i*U.wd x0.τ+(off+j)))[j]? =some u->j<n/\u=vs (i*U.wd x0.τ+(off+j)):=fun j u hu=>by
  rw[nT] at hu
  by_cases hj:j<n
  ·rw[NF hj] at hu
   exact⟨hj,by simpa using hu.symm⟩
  ·rw[od (by simp;omega)] at hu;cases hu
 obtain⟨v,hv1,hv2⟩:=U8 (us:=(List.range n).map fun j=>vs (i*U.wd x0.τ+(off+j))) (b:=bb) (off:=i*U.wd x0.τ+off) hs hg P0 (by simp) (fun j u hu=>by
  obtain⟨hj,rfl⟩:=sY j u hu
  obtain⟨c,Gf⟩:=SF (off+j) (by omega)
  rw[cell_of_row w bb _ cur _ (0,0) h2,<-h6 _ (fP wl Gf)]
  congr 1;omega)
 refine⟨v,by unfold execOp;simp only[ho,hv];exact iD hv1,_,?_,hv2⟩
 refine T_ (by simp[U.dz];omega) fun j y u hy hu=> ?_
 obtain⟨hj,rfl⟩:=sY j u hu
 rw[nT] at hy
 obtain⟨c,Gf⟩:=SF (off+j) (by omega)
 have P6:(((U.enc x0.τ (x0.xs.getD i (U.e6 x0.τ))).drop off).take n)[j]? =some c:=by rw[qn,if_pos hj,HB];exact Gf
 rw[P6] at hy
 simp only[FT,gA] at hy
 subst hy
 have j6:=h7 i _ (off+j) c wl Gf
 have h0:hZ (i*U.wd x0.τ+(off+j))=[]:=by
  generalize hZ (i*U.wd x0.τ+(off+j))=l at j6
  generalize vs (i*U.wd x0.τ+(off+j))=u at j6
  cases j6<;>rfl
 rw[h0] at j6
 exact⟨j6.gv,.inr j6⟩
theorem alj(h:cM E pm F kv fp σ a w){o:Oper}(hd:∀d,o.dst=some d->d<σ.n){t:TypeId}{x:Operand}{sx:SV U}{y:AC U}{n:Nat}{g:Bool}{ks:List Key}{r:cn U}(ho:o.op=.load t x)
  (hx:RS E w F kv fp (bW σ) sx (a.eval x)) (hc:vd sx=some y) (vy:∀k∈y.keys,Names σ k) (hs:E.size t=some n) (hg:E.isAgg t=some g)
  (hr:MZ (restrict σ.bO ks) (o.dst.getD 1000000) g n y=some r) (hp:∀p∈r.pre,p) (ov:∀k∈dR o r,¬Names σ k)
  {next:Act->World->Prop} {Q:Exit->Act->World->Prop} (hn:∀F kv fp a' w',cM E pm F kv fp (AM.apply o r σ) a' w'->next a' w'):o.wp E.P a w next Q:=by
 have hx:=li hx hc
 unfold MZ at hr
 split at hr
 rotate_left
 ·cases hr
 rename_i k i wd off
 split at hr
 rotate_left
 ·cases hr
 rename_i x0 dead he
 have fc:=j0 he
 rw[im] at hr
 split at hr
 rotate_left
 ·cases hr
 rename_i hb
 simp only[cJ] at hb
 obtain⟨⟨P0,hle⟩,vw⟩:=hb
 have hle:=J' hle
 have vw:=nk vw
 subst vw
 simp only at hr
 have M9:i<x0.xs.length/\dead i=false:=by
  rw[im] at hr
  split at hr
  ·cases hr;exact⟨hp _ (by simp[cn.cL]),hp _ (by simp[cn.cL])⟩
  ·rw[im] at hr
   split at hr
   ·cases hr;exact⟨hp _ (by simp[cn.cL]),hp _ (by simp[cn.cL])⟩
   rw[im] at hr
   split at hr
   ·cases hr;exact⟨hp _ (by simp),hp _ (by simp)⟩
   ·cases hr
 obtain⟨hi,Uu⟩:=M9
 have om:eE E w F dead x0 (kv k) (fp k):=h.dH k _ fc
 obtain⟨b,cap,us,gl,l',h1,h2,h3,h4,h5,h6,h7,h8⟩:=om.out (h.nodup k _ fc) hi Uu hle
 obtain⟨bb,oo,nn,cc,ot,hv⟩:=cw hx (by simp[iJ])
 simp only[pu] at ot
 rw[h1] at ot
 simp only[Value.slice.injEq,gA,Addr.mk.injEq,and_true] at ot
 obtain⟨⟨rfl,rfl⟩,_,_⟩:=ot
 rw[vk] at hv
 obtain⟨v,hv1,hv2⟩:=U8 hs hg P0 h2 h4
 have jn:(execOp a.eval o).run E.P w=.ok (.value v) w:=by unfold execOp;simp only[ho,hv];exact iD hv1
 have iv:(((U.enc x0.τ (x0.xs.getD i (U.e6 x0.τ))).drop off).take n).length=n:=by simp[U.dz];omega
 rw[im] at hr
 split at hr
 ·rename_i Bb
  cases hr
  refine sQ jn (hn F kv fp _ _ (h.val o _ _ v hd (fun sv EI=> ?_)))
  cases EI
  refine⟨us,?_,hv2⟩
  exact MR (by rw[h2,iv]) fun j c hj=>by
   obtain⟨u,rfl⟩:=U2 Bb j c hj
   exact(h5 j _ hj).H9
 ·rw[im] at hr
  split at hr
  ·cases hr
   refine sQ jn (hn F kv fp _ _ (h.val o _ _ v hd (fun sv EI=> ?_)))
   cases EI
   refine⟨us,T_ (by rw[Vg,h2,iv]) (fun j' y' u hy hu=> ?_),hv2⟩
   obtain⟨c,Gf,P6⟩:=Vh hy
   have j6:=h5 j' c Gf
   have sV:us.getD j' undef=u:=by rw[ez,hu];rfl
   rw[sV] at j6
   rcases P6 with⟨v',rfl,rfl⟩|⟨Gj,xs',rfl,rfl⟩
   ·obtain⟨_,e2,e3⟩:=j6.kc
    subst e2
    exact⟨j6.gv,.inr (.lit _ _ e3)⟩
   ·refine⟨j6.gv,.inr ?_⟩
    have iM:bb∈fp k:=by
     rcases om with⟨h0,_⟩|⟨b',aqg,cur',wj,kx,g1,_,_,_,_,_,_,_,g9⟩
     ·rw[h0] at hi;simp at hi
     ·rw[h1] at g1
      simp only[Value.slice.injEq,gA,Addr.mk.injEq,and_true] at g1
      rw[g9,<-g1.1];simp
    refine⟨bb,0,_,cap,u,h1,.inr iM,?_,rfl⟩
    rw[vk,<-QO]
    exact h4 j' u hu
  rw[im] at hr
  split at hr
  rotate_left
  ·cases hr
  rename_i s7
  have GR:=Zd hr
  obtain⟨D,d1,d2,d3,d4⟩:=KA (dst:=o.dst.getD 1000000) (base:=0) (vs:=us) (fl:=gl) (h2.trans iv.symm) (h3.trans iv.symm) h5
  have W5:=h.split (o:=o) hd D k _ (.part x0 (fun j=>Nat.beq j i||dead j)) fc (.v ⟨g,(putCells (o.dst.getD 1000000) true 0 (((U.enc x0.τ (x0.xs.getD i (U.e6 x0.τ))).drop off).take n)).1⟩) [i<x0.xs.length,dead i=false] v l' ?_ ?_ (vy k (by simp[AC.keys])) ?_ d2 ?_ (by rw[d3];exact h7) (by rw[d3];exact h8)
  ·obtain⟨kv',fp',o8⟩:=W5
   refine sQ jn (hn F kv' fp' _ _ ?_)
   rw[<-GR,d1];exact o8
  ·have:=adC.1 s7
   rw[d1] at this
   simpa[fi.es,Function.comp_def] using this
  ·intro s hs
   refine ov _ ?_
   rw[<-GR]
   simp only[dR,d1,fi.es,mf]
   exact⟨_,⟨s,hs,rfl⟩,rfl⟩
  ·intro kv' fp' bad hk
   exact⟨us,d4 kv' fp' bad hk,hv2⟩
  ·intro kv' fp' bad
   exact h6
theorem ac7(h:cM E pm F kv fp σ a w){ks:List Key}{y:AC U}{v:Value}{b:fu U}(hr:partOf (restrict σ.bO ks) y=some b)(hx:RD E w F kv fp (bW σ) y v):
  ∃k dead,y=.ref k []/\v=kv k/\eE E w F dead b v (fp k):=by
 unfold partOf at hr
 split at hr
 ·rename_i k
  split at hr
  ·rename_i x dead he
   cases hr
   have h1:v=kv k:=cw hx rfl
   subst h1
   exact⟨k,dead,rfl,rfl,h.dH k _ (j0 he)⟩
  ·cases hr
 ·cases hr
theorem eE.slice{dead:Nat->Bool}{x:fu U}{v:Value}{l:List Nat}(h:eE E w F dead x v l):∃ad c,v=.slice ad x.xs.length c/\x.xs.length<=maxLen:=by
 rcases h with⟨h0,⟨ad,rfl⟩,_⟩|⟨b,cap,cur,vs,hZ,rfl,_,hc,hm,_⟩
 ·exact⟨ad,0,by simp[h0],by simp[h0]⟩
 ·exact⟨_,_,rfl,xr hc hm⟩
theorem alx(h:cM E pm F kv fp σ a w){o:Oper}{t:TypeId}{x y:Operand}{sx sy:SV U}{k:Key}{ks:List Key}{kd:IntKind}{n:Int}{m:Nat}{b:fu U}(ho:o.op=.indexAddr t x y)
  (hx:RS E w F kv fp (bW σ) sx (a.eval x)) (hc:vd sx=some (.ref k [])) (hy:RS E w F kv fp (bW σ) sy (a.eval y)) (hl:iZ sy=some (.int kd n)) (hm:(E.elem t).bind E.size=some m)
  (ha:partOf (restrict σ.bO ks) (.ref k [])=some b) (hw:m=U.wd b.τ)
  (h1:0<=n) (h2:n.toNat<b.xs.length):cF E F kv fp (bW σ) a w o (one (.lN k [] n.toNat (U.wd b.τ) 0)):=by
 obtain⟨e,i,hu,hi,hs⟩:=p7 hm
 have h3:=qp hy hl
 have BW:=li hx hc
 obtain⟨k',dead,hk,Sc,om⟩:=ac7 h ha BW
 cases hk
 rcases om with⟨h0,_⟩|⟨b',cap,cur,vs,hZ,h4,_⟩
 ·rw[h0] at h2;simp at h2
 ·refine⟨.pointer (some ⟨b',0+n.toNat*U.wd b.τ,none⟩),?_,iu ⟨⟨rfl,trivial⟩,.inr ⟨b',0,b.xs.length,cap,?_,by simp⟩⟩⟩
  ·unfold execOp;simp only[ho,h3,h4]
   rw[<-hw,<-hs]
   exact iD (Z_ hu hi h1 h2)
  ·simp only[pu];rw[<-Sc,h4]
end AM
