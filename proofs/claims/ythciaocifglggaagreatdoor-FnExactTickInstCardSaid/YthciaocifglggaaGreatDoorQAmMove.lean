import Derived.Test.YthciaocifglggaaGreatDoorQAmCall3
namespace AM
set_option linter.unusedVariables false
open Go
variable{U:kz}{E:Env U}{pm:Pm}
variable{F F':Nat->Prop}{kv:Key->Value}{fp:Key->List Nat}{σ:af U}{a:Act}{w w':World}{bad:Key->Bool}
theorem Wc{α:Type}{f g:α->List Nat}:∀{l:List α},(∀x∈l,(f x).Sublist (g x))->(l.flatMap f).Sublist (l.flatMap g)
 |[],_=>RU _
 |x::l,h=>by
  rw[xv,xv]
  exact List.Sublist.append (h x dw) (Wc fun y hy=>h y (bi _ hy))
theorem aaz{τ:U.Ty}{xs:List (U.T τ)}{n:Nat}(hn:n<xs.length*U.wd τ):∃i x j c,n=i*U.wd τ+j/\j<U.wd τ/\i<xs.length/\xs[i]? =some x/\(U.enc τ x)[j]? =some c:=by
 have hw:=U.kq τ
 have hi:n/U.wd τ<xs.length:=(Nat.div_lt_iff_lt_mul hw).2 hn
 have hj:n%U.wd τ<U.wd τ:=Nat.mod_lt _ hw
 refine⟨n/U.wd τ,xs[n/U.wd τ],n%U.wd τ,(U.enc τ xs[n/U.wd τ])[n%U.wd τ]'(by rw[U.cZ];exact hj),?_,hj,hi,gg hi,gg _⟩
 rw[RR];exact(Nat.div_add_mod n _).symm
theorem eu.part{x:eK U}{v:Value}{l:List Nat}(h:eu E w F true x v l):dU E w F (fun _=>false) x v l:=by
 rcases h with h|⟨b,cap,cur,vs,gA,rfl,hb,hc,hm,hs,hv,hr,rfl⟩
 ·exact .inl h
 ·refine .inr ⟨b,cap,cur,vs,gA,rfl,hb,hc,hm,hs,fun n hn=>⟨hv n hn,?_⟩,fun i y j c _ hy hj=>hr i y j c hy hj,fun i j hi _=>Bool.noConfusion hi,rfl⟩
  obtain⟨i,y,j,c,rfl,_,_,hy,hj⟩:=aaz hn
  exact(hr i y j c hy hj).fB
theorem PK{i i' j j' wd:Nat}(hj:j<wd)(tH:j'<wd)(h:i*wd+j=i'*wd+j'):i=i'/\j=j':=by
 have h1:(i*wd+j)/wd=i:=by rw[RR,Nat.mul_add_div (by omega)];simp[zez hj]
 have h2:(i'*wd+j')/wd=i':=by rw[RR,Nat.mul_add_div (by omega)];simp[zez tH]
 have:i=i':=by rw[<-h1,<-h2,h]
 subst this
 exact⟨rfl,by omega⟩
theorem aj8{s n N:Nat}(h:s+n<=N):(List.range' s n).Sublist (List.range' 0 N):=by
 have e1:List.range' 0 s++List.range' (0+s) (N-s)=List.range' 0 (s+(N-s)):=List.range'_append_1
 have e2:List.range' s n++List.range' (s+n) (N-s-n)=List.range' s (n+(N-s-n)):=List.range'_append_1
 rw[show n+(N-s-n)=N-s by omega] at e2
 rw[tW,<-e2,show s+(N-s)=N by omega] at e1
 rw[<-e1]
 exact(zer _ _).trans (zem _ _)
theorem dU.out{dead:Nat->Bool}{x:eK U}{v:Value}{l:List Nat}(h:dU E w F dead x v l)(oi:l.Nodup){i off n:Nat}(hi:i<x.xs.length)(OW:dead i=false)(hle:off+n<=U.wd x.τ):
  ∃(b cap:Nat)(us:List Value)(gl:List (List Nat))(l':List Nat),v=.slice (some ⟨b,0,none⟩) x.xs.length cap/\us.length=n/\gl.length=n/\w.rangeAt b (i*U.wd x.τ+off) us/\
   (∀(j:Nat)(c:U.C),(((U.enc x.τ (x.xs.getD i (U.eP x.τ))).drop off).take n)[j]? =some c->Rp E w F true c (us.getD j undef) (gl.getD j []))/\
   dU E w F (fun j=>Nat.beq j i||dead j) x v l'/\(gl.flatten++l').Nodup/\∀b∈gl.flatten++l',b∈l:=by
 rcases h with⟨h0,_⟩|⟨b,cap,cur,vs,gA,rfl,hb,hc,hm,hs,hv,hr,jU,rfl⟩
 ·rw[h0] at hi;simp at hi
 have tE:=eH (d:=U.eP x.τ) hi
 have nj:∀j,j<U.wd x.τ->i*U.wd x.τ+j<x.xs.length*U.wd x.τ:=fun j hj=>
  fe tE (c:=(U.enc x.τ (x.xs.getD i (U.eP x.τ)))[j]'(by rw[U.cZ];exact hj)) (gg _)
 rw[rv] at oi
 obtain⟨Lh,Xn⟩:=oi
 let jW:Nat->List Nat:=fun m=>if i*U.wd x.τ<=m/\m<i*U.wd x.τ+U.wd x.τ then[] else gA m
 have pN:∀m,i*U.wd x.τ<=m/\m<i*U.wd x.τ+U.wd x.τ->jW m=[]:=fun m hm=>if_pos hm
 have Nk:∀m,¬(i*U.wd x.τ<=m/\m<i*U.wd x.τ+U.wd x.τ)->jW m=gA m:=fun m hm=>if_neg hm
 have oh:((List.range (x.xs.length*U.wd x.τ)).flatMap jW).Sublist ((List.range (x.xs.length*U.wd x.τ)).flatMap gA):=Wc fun m _=>by
  simp only[jW];split
  ·exact List.nil_sublist _
  ·exact RU _
 have Bb:∀j,off+j<U.wd x.τ->∀b',b'∈gA (i*U.wd x.τ+(off+j))->b'∈(List.range (x.xs.length*U.wd x.τ)).flatMap gA:=fun j hj b' aY=>nl.2 ⟨_,oc.2 (nj _ hj),aY⟩
 have Nh:((List.range n).map fun j=>gA (i*U.wd x.τ+(off+j))).flatten=(List.range n).flatMap fun j=>gA (i*U.wd x.τ+(off+j)):=by rw[JZ]
 have ab1:∀m m',m<x.xs.length*U.wd x.τ->m'<x.xs.length*U.wd x.τ->m≠m'->∀b',b'∈gA m->b'∉gA m':=fun m m' hm ul et b' aY=>LY Xn (oc.2 hm) (oc.2 ul) et aY
 refine⟨b,cap,(List.range n).map fun j=>vs (i*U.wd x.τ+(off+j)),(List.range n).map fun j=>gA (i*U.wd x.τ+(off+j)),b::(List.range (x.xs.length*U.wd x.τ)).flatMap jW,rfl,by simp,by simp,fun j u hu=> ?_,fun j c hj=> ?_,?_,?_,?_⟩
 ·rw[lZ] at hu
  by_cases XL:j<n
  ·rw[IX XL] at hu
   simp only[B5,fJ] at hu
   rw[cell_of_row w b _ cur _ (0,0) hb,<-hu,show i*U.wd x.τ+off+j=i*U.wd x.τ+(off+j) by omega]
   exact(hv _ (nj _ (by omega))).1
  ·rw[mi (by simp;omega)] at hu;cases hu
 ·have XL:j<n:=by
   rw[nF] at hj
   split at hj
   ·assumption
   ·cases hj
  rw[nF,if_pos XL,Dt] at hj
  have:=hr i _ (off+j) c OW tE hj
  rw[fY,lZ,IX XL,fY,lZ,IX XL]
  exact this
 ·refine .inr ⟨b,cap,cur,vs,jW,rfl,hb,hc,hm,hs,hv,fun k y j c hk hy hj=> ?_,fun k j hk hj=> ?_,rfl⟩
  ·simp only[Ld] at hk
   have XJ:k≠i:=fun e=>by subst e;simp at hk
   have KO:j<U.wd x.τ:=by
    rw[<-U.cZ x.τ y]
    rcases mX j (U.enc x.τ y).length with h|h
    ·exact h
    ·rw[mi h] at hj;cases hj
   rw[Nk _ (fun px=>XJ (PK KO (show k*U.wd x.τ+j-i*U.wd x.τ<U.wd x.τ by omega) (by omega)).1)]
   exact hr k y j c hk.2 hy hj
  ·by_cases XJ:k=i
   ·subst XJ
    exact pN _ ⟨by omega,by omega⟩
   ·rw[Nk _ (fun px=>XJ (PK hj (show k*U.wd x.τ+j-i*U.wd x.τ<U.wd x.τ by omega) (by omega)).1)]
    refine jU k j ?_ hj
    rw[B3] at hk
    exact hk.resolve_left (fun e=>XJ (by simpa using e))
 ·rw[Nh,pu]
  refine⟨?_,rv.2 ⟨fun aY=>Lh (oh.subset aY),oh.nodup Xn⟩,fun b1 rF b2 rE he=> ?_⟩
  ·have Zc:((List.range n).map fun j=>i*U.wd x.τ+(off+j)).Sublist (List.range (x.xs.length*U.wd x.τ)):=by
    have e1:(List.range n).map (fun j=>i*U.wd x.τ+(off+j))=List.range' (i*U.wd x.τ+off) n:=by
     rw[List.range'_eq_map_range]
     exact J1 fun j _=>by omega
    rw[e1,List.range_eq_range']
    have gU:=nj (U.wd x.τ-1) (by have:=U.kq x.τ;omega)
    exact aj8 (by have:=U.kq x.τ;omega)
   have:((List.range n).flatMap fun j=>gA (i*U.wd x.τ+(off+j)))=((List.range n).map fun j=>i*U.wd x.τ+(off+j)).flatMap gA:=by rw[List.flatMap_map]
   rw[this]
   have hs3:∀{l1 l2:List Nat},l1.Sublist l2->(l1.flatMap gA).Sublist (l2.flatMap gA):=by
    intro l1 l2 hh
    induction hh with
    |slnil=>exact RU _
    |cons y _ ih=>rw[xv];exact ih.trans (zem _ _)
    |cons_cons y _ ih=>rw[xv,xv];exact List.Sublist.append (RU _) ih
   exact(hs3 Zc).nodup Xn
  ·subst he
   obtain⟨j,hj,rF⟩:=nl.1 rF
   rw[oc] at hj
   rcases jw.1 rE with rfl|rE
   ·exact Lh (Bb j (by omega) _ rF)
   ·obtain⟨m,ul,rE⟩:=nl.1 rE
    rw[oc] at ul
    by_cases px:i*U.wd x.τ<=m/\m<i*U.wd x.τ+U.wd x.τ
    ·rw[pN m px] at rE;cases rE
    ·rw[Nk m px] at rE
     exact ab1 _ m (nj _ (by omega)) ul (fun e=>px (by omega)) b1 rF rE
 ·intro b' aY
  rcases kA.1 aY with aY|aY
  ·rw[Nh] at aY
   obtain⟨j,hj,aY⟩:=nl.1 aY
   rw[oc] at hj
   exact bi _ (Bb j (by omega) _ aY)
  ·rcases jw.1 aY with rfl|aY
   ·exact dw
   ·exact bi _ (oh.subset aY)
theorem cG.split(h:cG E pm F kv fp σ a w){o:Oper}(hd:∀d,o.dst=some d->d<σ.n)(D:eZ U)(k:Key)(e0 e:ir U)(ni:σ.bH k=some e0)(sv:SV U)(ps:List Prop)(v:Value)(l':List Nat)
  (Js:(D.map (·.1)).Nodup)
  (ng:∀s∈D,¬Names σ (o.dst.getD 1000000,s.1)) (xK:Names σ k)
  (A_:∀kv' fp' bad,(∀s∈D,kv' (o.dst.getD 1000000,s.1)=s.2.2.1)->RS E w F kv' fp' bad sv v)
  (hD:∀s∈D,∀kv fp bad,ri E w F kv fp bad s.2.1 s.2.2.1 s.2.2.2)
  (hE:∀kv' fp' bad,ri E w F kv' fp' bad e (kv k) l')
  (oi:(D.bl++l').Nodup) (px:∀b∈D.bl++l',b∈fp k):
  ∃kv fp,cG E pm F kv fp (AM.apply o ⟨some sv,D.es,[],[(k,e)],ps⟩ σ) (a.put o.dst v) w:=by
 generalize hr:(⟨some sv,D.es,[],[(k,e)],ps⟩:ch U)=r
 have jV:∀k',k'∈du o r↔∃s∈D,k'=(o.dst.getD 1000000,s.1):=by
  intro k'
  rw[<-hr]
  simp only[du,eZ.es,lH]
  constructor
  ·rintro⟨p,⟨s,hs,rfl⟩,rfl⟩;exact⟨s,hs,rfl⟩
  ·rintro⟨s,hs,rfl⟩;exact⟨_,⟨s,hs,rfl⟩,rfl⟩
 have kl:jp r=[k]:=by rw[<-hr];rfl
 have w5:r.kH=[]:=by rw[<-hr]
 have Nf:k∉du o r:=fun hk=>by
  obtain⟨s,hs,rfl⟩:=(jV k).1 hk
  exact ng s hs xK
 have jz:∀k',k'∉du o r->D.yi (o.dst.getD 1000000) kv k'=kv k'/\D.xb (o.dst.getD 1000000) (db fp k l') k'=db fp k l' k':=by
  intro k' cM
  exact eZ.other (fun t ht e=>cM ((jV k').2 ⟨t,ht,e⟩)) kv (db fp k l')
 have QG:∀s∈D,D.yi (o.dst.getD 1000000) kv (o.dst.getD 1000000,s.1)=s.2.2.1/\D.xb (o.dst.getD 1000000) (db fp k l') (o.dst.getD 1000000,s.1)=s.2.2.2:=fun s hs=>⟨eZ.vh Js hs,eZ.sO Js hs⟩
 rw[pu] at oi
 obtain⟨M9,Qp,Qo⟩:=oi
 have hm:∀b∈fp k,¬F b/\(pm.W b\/pm.w0.heap.size<=b)/\b<w.heap.size:=fun b hb=>h.ff k e0 b ni hb
 refine⟨D.yi (o.dst.getD 1000000) kv,D.xb (o.dst.getD 1000000) (db fp k l'),?_⟩
 refine h.apply (F':=F) (w':=w) o r v hd ?_ (fun k' cM=>(jz k' cM).1) ?_ ?_ (fun b hb=>⟨hb,rfl⟩) (fun _ _ _ _ _ _ _ _=>rfl) ?_ ?_ ?_ h.rI h.rH h.upto (tB _)
 ·intro sv' W3
  rw[<-hr] at W3
  simp only[fJ] at W3
  subst W3
  exact A_ _ _ _ fun s hs=>(QG s hs).1
 ·intro k' h1 h2
  rw[(jz k' h1).2]
  rw[kl] at h2
  exact ye (by simpa using h2)
 ·intro k' cM
  obtain⟨s,hs,rfl⟩:=(jV k').1 cM
  exact ng s hs
 ·rintro k' e' (⟨j,rfl,hj⟩|cM)
  ·rw[<-hr] at hj
   simp only[eZ.es,lH] at hj
   obtain⟨s,hs,hj⟩:=hj
   obtain⟨rfl,rfl⟩:=Prod.mk.inj hj
   rw[(QG s hs).1,(QG s hs).2]
   exact⟨hD s hs _ _ _,eZ.vO M9 hs,fun b hb=>hm b (px b (pw _ (eZ.n6.2 ⟨s,hs,hb⟩)))⟩
  ·rw[<-hr] at cM
   simp only[oa,nE] at cM
   obtain⟨rfl,rfl⟩:=cM
   rw[(jz k' Nf).1,(jz k' Nf).2,rA]
   exact⟨hE _ _ _,Qp,fun b hb=>hm b (px b (oq _ hb))⟩
 ·intro k' e' b _ _ _ he hb;exact(h.ff k' e' b he hb).1
 ·intro k1 k2 b et w6 kJ hb
  rw[kl,w5] at kJ
  rw[kl] at w6
  have key:∀k',(k'∈du o r\/k'∈[k])->∀b∈D.xb (o.dst.getD 1000000) (db fp k l') k',b∈fp k/\((∃s∈D,k'=(o.dst.getD 1000000,s.1)/\b∈s.2.2.2)\/(k'=k/\b∈l')):=by
   intro k' cM b hb
   rcases cM with cM|cM
   ·obtain⟨s,hs,rfl⟩:=(jV k').1 cM
    rw[(QG s hs).2] at hb
    exact⟨px b (pw _ (eZ.n6.2 ⟨s,hs,hb⟩)),.inl ⟨s,hs,rfl,hb⟩⟩
   ·have:=oa.1 cM
    subst this
    rw[(jz k' Nf).2,rA] at hb
    exact⟨px b (oq _ hb),.inr ⟨rfl,hb⟩⟩
  obtain⟨g1,g2⟩:=key k1 w6 b hb
  intro aY
  rcases kJ with kJ|kJ|⟨_,kJ⟩
  ·obtain⟨_,g4⟩:=key k2 (.inl kJ) b aY
   rcases g2 with⟨s,hs,rfl,OV⟩|⟨rfl,KS⟩
   ·rcases g4 with⟨s',jG,rfl,yl⟩|⟨rfl,Cn⟩
    ·exact eZ.pU M9 hs jG (fun e=>et (by rw[e])) OV yl
    ·exact Qo b (eZ.n6.2 ⟨s,hs,OV⟩) b Cn rfl
   ·rcases g4 with⟨s',jG,rfl,yl⟩|⟨rfl,Cn⟩
    ·exact Qo b (eZ.n6.2 ⟨s',jG,yl⟩) b KS rfl
    ·exact et rfl
  ·obtain⟨_,g4⟩:=key k2 (.inr kJ) b aY
   rcases g2 with⟨s,hs,rfl,OV⟩|⟨rfl,KS⟩
   ·rcases g4 with⟨s',jG,rfl,yl⟩|⟨rfl,Cn⟩
    ·exact eZ.pU M9 hs jG (fun e=>et (by rw[e])) OV yl
    ·exact Qo b (eZ.n6.2 ⟨s,hs,OV⟩) b Cn rfl
   ·rcases g4 with⟨s',jG,rfl,yl⟩|⟨rfl,Cn⟩
    ·exact Qo b (eZ.n6.2 ⟨s',jG,yl⟩) b KS rfl
    ·exact et rfl
  ·by_cases XK:k2∈du o r
   ·obtain⟨_,g4⟩:=key k2 (.inl XK) b aY
    rcases g2 with⟨s,hs,rfl,OV⟩|⟨rfl,KS⟩
    ·rcases g4 with⟨s',jG,rfl,yl⟩|⟨rfl,Cn⟩
     ·exact eZ.pU M9 hs jG (fun e=>et (by rw[e])) OV yl
     ·exact Qo b (eZ.n6.2 ⟨s,hs,OV⟩) b Cn rfl
    ·rcases g4 with⟨s',jG,rfl,yl⟩|⟨rfl,Cn⟩
     ·exact Qo b (eZ.n6.2 ⟨s',jG,yl⟩) b KS rfl
     ·exact et rfl
   ·by_cases Qx:k2=k
    ·obtain⟨_,g4⟩:=key k2 (.inr (by simp[Qx])) b aY
     rcases g2 with⟨s,hs,rfl,OV⟩|⟨rfl,KS⟩
     ·rcases g4 with⟨s',jG,rfl,yl⟩|⟨rfl,Cn⟩
      ·exact XK ((jV _).2 ⟨s',jG,rfl⟩)
      ·exact Qo b (eZ.n6.2 ⟨s,hs,OV⟩) b Cn rfl
     ·exact et Qx.symm
    ·rw[(jz k2 XK).2,ye Qx] at aY
     obtain⟨e2,rD⟩:=lJ.1 kJ
     exact h.apart k k2 e0 e2 b (Ne.symm Qx) ni rD g1 aY
theorem aks(h:cG E pm F kv fp σ a w){o:Oper}{t:TypeId}{x:Operand}{sx:SV U}{y:AC U}{n:Nat}{g:Bool}{ks:List Key}{r:ch U}(ho:o.op=.load t x)
  (hx:RS E w F kv fp (bW σ) sx (a.eval x)) (hc:sr sx=some y) (hs:E.size t=some n) (hg:E.isAgg t=some g)
  (hr:A6 (restrict σ.bH ks) g n y=some r) (hp:∀p∈r.pre,p):∃sv ps,r=⟨some sv,[],[],[],ps⟩/\cv E F kv fp (bW σ) a w o sv:=by
 have hx:=kt hx hc
 unfold A6 at hr
 split at hr
 rotate_left
 ·cases hr
 rename_i k i wd off
 split at hr
 rotate_left
 ·cases hr
 rename_i x0 he
 have eG:=jx he
 rw[gT] at hr
 split at hr
 rotate_left
 ·cases hr
 rename_i hb
 simp only[eE] at hb
 obtain⟨⟨KP,hle⟩,sK⟩:=hb
 have hle:=FH hle
 have sK:=lN sK
 subst sK
 cases hr
 refine⟨_,_,rfl,?_⟩
 have hi:i<x0.xs.length:=hp _ (by simp[ch.cE])
 have mM:eu E w F false x0 (kv k) (fp k):=h.cV k _ eG
 obtain⟨bb,oo,nn,cc,mN,hv⟩:=cn hx (by simp[io])
 simp only[nq] at mN
 rcases mM with⟨h0,_⟩|⟨b,cap,cur,vs,gA,h1,h2,h3,h4,h5,h6,h7,_⟩
 ·rw[h0] at hi;simp at hi
 rw[h1] at mN
 simp only[Value.slice.injEq,fJ,Addr.mk.injEq,and_true] at mN
 obtain⟨⟨rfl,rfl⟩,_,_⟩:=mN
 rw[tW] at hv
 have tE:=eH (d:=U.eP x0.τ) hi
 have Nt:∀j,j<U.wd x0.τ->∃c,(U.enc x0.τ (x0.xs.getD i (U.eP x0.τ)))[j]? =some c:=fun j hj=>by
  have tH:j<(U.enc x0.τ (x0.xs.getD i (U.eP x0.τ))).length:=by rw[U.cZ];exact hj
  exact⟨_,gg tH⟩
 have qm:∀j u,((List.range n).map fun j=>vs (i*U.wd x0.τ+(off+j)))[j]? =some u->j<n/\u=vs (i*U.wd x0.τ+(off+j)):=fun j u hu=>by
  rw[lZ] at hu
  by_cases hj:j<n
  ·rw[IX hj] at hu
   exact⟨hj,by simpa using hu.symm⟩
  ·rw[mi (by simp;omega)] at hu;cases hu
 obtain⟨v,WX,WW⟩:=Px (us:=(List.range n).map fun j=>vs (i*U.wd x0.τ+(off+j))) (b:=bb) (off:=i*U.wd x0.τ+off) hs hg KP (by simp) (fun j u hu=>by
  obtain⟨hj,rfl⟩:=qm j u hu
  obtain⟨c,B0⟩:=Nt (off+j) (by omega)
  rw[cell_of_row w bb _ cur _ (0,0) h2,<-h6 _ (fe tE B0)]
  congr 1;omega)
 refine⟨v,by unfold execOp;simp only[ho,hv];exact ic WX,_,?_,WW⟩
 refine OG (by simp[U.cZ];omega) fun j y u hy hu=> ?_
 obtain⟨hj,rfl⟩:=qm j u hu
 rw[lZ] at hy
 obtain⟨c,B0⟩:=Nt (off+j) (by omega)
 have Jt:(((U.enc x0.τ (x0.xs.getD i (U.eP x0.τ))).drop off).take n)[j]? =some c:=by rw[nF,if_pos hj,Dt];exact B0
 rw[Jt] at hy
 simp only[B5,fJ] at hy
 subst hy
 have jy:=h7 i _ (off+j) c tE B0
 have h0:gA (i*U.wd x0.τ+(off+j))=[]:=by
  generalize gA (i*U.wd x0.τ+(off+j))=l at jy
  generalize vs (i*U.wd x0.τ+(off+j))=u at jy
  cases jy<;>rfl
 rw[h0] at jy
 exact⟨jy.fB,.inr jy⟩
theorem akn(h:cG E pm F kv fp σ a w){o:Oper}(hd:∀d,o.dst=some d->d<σ.n){t:TypeId}{x:Operand}{sx:SV U}{y:AC U}{n:Nat}{g:Bool}{ks:List Key}{r:ch U}(ho:o.op=.load t x)
  (hx:RS E w F kv fp (bW σ) sx (a.eval x)) (hc:sr sx=some y) (sM:∀k∈y.keys,Names σ k) (hs:E.size t=some n) (hg:E.isAgg t=some g)
  (hr:H8 (restrict σ.bH ks) (o.dst.getD 1000000) g n y=some r) (hp:∀p∈r.pre,p) (ng:∀k∈du o r,¬Names σ k)
  {next:Act->World->Prop} {Q:Exit->Act->World->Prop} (hn:∀F kv fp a' w',cG E pm F kv fp (AM.apply o r σ) a' w'->next a' w'):o.wp E.P a w next Q:=by
 have hx:=kt hx hc
 unfold H8 at hr
 split at hr
 rotate_left
 ·cases hr
 rename_i k i wd off
 split at hr
 rotate_left
 ·cases hr
 rename_i x0 dead he
 have eG:=jx he
 rw[gT] at hr
 split at hr
 rotate_left
 ·cases hr
 rename_i hb
 simp only[eE] at hb
 obtain⟨⟨KP,hle⟩,sK⟩:=hb
 have hle:=FH hle
 have sK:=lN sK
 subst sK
 simp only at hr
 have Ig:i<x0.xs.length/\dead i=false:=by
  rw[gT] at hr
  split at hr
  ·cases hr;exact⟨hp _ (by simp[ch.cE]),hp _ (by simp[ch.cE])⟩
  ·rw[gT] at hr
   split at hr
   ·cases hr;exact⟨hp _ (by simp[ch.cE]),hp _ (by simp[ch.cE])⟩
   rw[gT] at hr
   split at hr
   ·cases hr;exact⟨hp _ (by simp),hp _ (by simp)⟩
   ·cases hr
 obtain⟨hi,OW⟩:=Ig
 have mM:dU E w F dead x0 (kv k) (fp k):=h.cV k _ eG
 obtain⟨b,cap,us,gl,l',h1,h2,h3,h4,h5,h6,h7,h8⟩:=mM.out (h.nodup k _ eG) hi OW hle
 obtain⟨bb,oo,nn,cc,mN,hv⟩:=cn hx (by simp[io])
 simp only[nq] at mN
 rw[h1] at mN
 simp only[Value.slice.injEq,fJ,Addr.mk.injEq,and_true] at mN
 obtain⟨⟨rfl,rfl⟩,_,_⟩:=mN
 rw[tW] at hv
 obtain⟨v,WX,WW⟩:=Px hs hg KP h2 h4
 have iV:(execOp a.eval o).run E.P w=.ok (.value v) w:=by unfold execOp;simp only[ho,hv];exact ic WX
 have gU:(((U.enc x0.τ (x0.xs.getD i (U.eP x0.τ))).drop off).take n).length=n:=by simp[U.cZ];omega
 rw[gT] at hr
 split at hr
 ·rename_i yB
  cases hr
  refine qd iV (hn F kv fp _ _ (h.val o _ _ v hd (fun sv A_=> ?_)))
  cases A_
  refine⟨us,?_,WW⟩
  exact H0 (by rw[h2,gU]) fun j c hj=>by
   obtain⟨u,rfl⟩:=Pr yB j c hj
   exact(h5 j _ hj).DW
 ·rw[gT] at hr
  split at hr
  ·cases hr
   refine qd iV (hn F kv fp _ _ (h.val o _ _ v hd (fun sv A_=> ?_)))
   cases A_
   refine⟨us,OG (by rw[PH,h2,gU]) (fun j' y' u hy hu=> ?_),WW⟩
   obtain⟨c,B0,Jt⟩:=PI hy
   have jy:=h5 j' c B0
   have qg:us.getD j' undef=u:=by rw[fY,hu];rfl
   rw[qg] at jy
   rcases Jt with⟨v',rfl,rfl⟩|⟨Cr,xs',rfl,rfl⟩
   ·obtain⟨_,e2,e3⟩:=jy.jC
    subst e2
    exact⟨jy.fB,.inr (.lit _ _ e3)⟩
   ·refine⟨jy.fB,.inr ?_⟩
    have iq:bb∈fp k:=by
     rcases mM with⟨h0,_⟩|⟨b',ap4,cur',tY,jW,g1,_,_,_,_,_,_,_,g9⟩
     ·rw[h0] at hi;simp at hi
     ·rw[h1] at g1
      simp only[Value.slice.injEq,fJ,Addr.mk.injEq,and_true] at g1
      rw[g9,<-g1.1];simp
    refine⟨bb,0,_,cap,u,h1,.inr iq,?_,rfl⟩
    rw[tW,<-Lm]
    exact h4 j' u hu
  rw[gT] at hr
  split at hr
  rotate_left
  ·cases hr
  rename_i qp
  have CK:=UP hr
  obtain⟨D,d1,d2,d3,d4⟩:=F5 (dst:=o.dst.getD 1000000) (base:=0) (vs:=us) (fl:=gl) (h2.trans gU.symm) (h3.trans gU.symm) h5
  have Se:=h.split (o:=o) hd D k _ (.part x0 (fun j=>Nat.beq j i||dead j)) eG (.v ⟨g,(putCells (o.dst.getD 1000000) true 0 (((U.enc x0.τ (x0.xs.getD i (U.eP x0.τ))).drop off).take n)).1⟩) [i<x0.xs.length,dead i=false] v l' ?_ ?_ (sM k (by simp[AC.keys])) ?_ d2 ?_ (by rw[d3];exact h7) (by rw[d3];exact h8)
  ·obtain⟨kv',fp',nb⟩:=Se
   refine qd iV (hn F kv' fp' _ _ ?_)
   rw[<-CK,d1];exact nb
  ·have:=abc.1 qp
   rw[d1] at this
   simpa[eZ.es,Function.comp_def] using this
  ·intro s hs
   refine ng _ ?_
   rw[<-CK]
   simp only[du,d1,eZ.es,lH]
   exact⟨_,⟨s,hs,rfl⟩,rfl⟩
  ·intro kv' fp' bad hk
   exact⟨us,d4 kv' fp' bad hk,WW⟩
  ·intro kv' fp' bad
   exact h6
theorem aaJ(h:cG E pm F kv fp σ a w){ks:List Key}{y:AC U}{v:Value}{b:eK U}(hr:partOf (restrict σ.bH ks) y=some b)(hx:RD E w F kv fp (bW σ) y v):
  ∃k dead,y=.ref k []/\v=kv k/\dU E w F dead b v (fp k):=by
 unfold partOf at hr
 split at hr
 ·rename_i k
  split at hr
  ·rename_i x dead he
   cases hr
   have h1:v=kv k:=cn hx rfl
   subst h1
   exact⟨k,dead,rfl,rfl,h.cV k _ (jx he)⟩
  ·cases hr
 ·cases hr
theorem dU.slice{dead:Nat->Bool}{x:eK U}{v:Value}{l:List Nat}(h:dU E w F dead x v l):∃ad c,v=.slice ad x.xs.length c/\x.xs.length<=maxLen:=by
 rcases h with⟨h0,⟨ad,rfl⟩,_⟩|⟨b,cap,cur,vs,gA,rfl,_,hc,hm,_⟩
 ·exact⟨ad,0,by simp[h0],by simp[h0]⟩
 ·exact⟨_,_,rfl,BU hc hm⟩
theorem akz(h:cG E pm F kv fp σ a w){o:Oper}{t:TypeId}{x y:Operand}{sx sy:SV U}{k:Key}{ks:List Key}{kd:IntKind}{n:Int}{m:Nat}{b:eK U}(ho:o.op=.indexAddr t x y)
  (hx:RS E w F kv fp (bW σ) sx (a.eval x)) (hc:sr sx=some (.ref k [])) (hy:RS E w F kv fp (bW σ) sy (a.eval y)) (hl:iC sy=some (.int kd n)) (hm:(E.elem t).bind E.size=some m)
  (ha:partOf (restrict σ.bH ks) (.ref k [])=some b) (hw:m=U.wd b.τ)
  (h1:0<=n) (h2:n.toNat<b.xs.length):cv E F kv fp (bW σ) a w o (one (.kM k [] n.toNat (U.wd b.τ) 0)):=by
 obtain⟨e,i,hu,hi,hs⟩:=nY hm
 have h3:=og hy hl
 have yA:=kt hx hc
 obtain⟨k',dead,hk,M1,mM⟩:=aaJ h ha yA
 cases hk
 rcases mM with⟨h0,_⟩|⟨b',cap,cur,vs,gA,h4,_⟩
 ·rw[h0] at h2;simp at h2
 ·refine⟨.pointer (some ⟨b',0+n.toNat*U.wd b.τ,none⟩),?_,gZ ⟨⟨rfl,trivial⟩,.inr ⟨b',0,b.xs.length,cap,?_,by simp⟩⟩⟩
  ·unfold execOp;simp only[ho,h3,h4]
   rw[<-hw,<-hs]
   exact ic (Wr hu hi h1 h2)
  ·simp only[nq];rw[<-M1,h4]
end AM
