/- THE ABSTRACT MACHINE: an element that is moved out of a row. -/
import Derived.Test.YtceiiofmelhipaaGreatAmCall3
namespace AM
set_option linter.unusedVariables false
open Go
variable{U:Uni}{E:Env U}{pm:Pm}
variable{F F':Nat→Prop}{kv:Key→Value}{fp:Key→List Nat}{σ:AState U}{a:Act}{w w':World}{bad:Key→Bool}
theorem qanb{α:Type}{f g:α→List Nat}:∀{l:List α},(∀x∈l,(f x).Sublist (g x))→(l.flatMap f).Sublist (l.flatMap g)
 |[],_=>zdi _
 |x::l,h=>by
  rw[zbm,zbm]
  exact List.Sublist.append (h x zab) (qanb fun y hy=>h y (zaa _ hy))
theorem qalh{τ:U.Ty}{xs:List (U.T τ)}{n:Nat}(hn:n<xs.length*U.wd τ):∃i x j c,n=i*U.wd τ+j∧j<U.wd τ∧i<xs.length∧xs[i]? =some x∧(U.enc τ x)[j]? =some c:=by
 have hw:=U.wd_pos τ
 have hi:n/U.wd τ<xs.length:=(Nat.div_lt_iff_lt_mul hw).2 hn
 have hj:n%U.wd τ<U.wd τ:=Nat.mod_lt _ hw
 refine⟨n/U.wd τ,xs[n/U.wd τ],n%U.wd τ,(U.enc τ xs[n/U.wd τ])[n%U.wd τ]'(by rw[U.enc_len];exact hj),?_,hj,hi,zad hi,zad _⟩
 rw[zec];exact(Nat.div_add_mod n _).symm
theorem ROwn.part{x:Arr U}{v:Value}{l:List Nat}(h:ROwn E w F true x v l):ROwnP E w F (fun _=>false) x v l:=by
 rcases h with h|⟨b,cap,cur,vs,fps,rfl,hb,hc,hm,hs,hv,hr,rfl⟩
 ·exact .inl h
 ·refine .inr ⟨b,cap,cur,vs,fps,rfl,hb,hc,hm,hs,fun n hn=>⟨hv n hn,?_⟩,fun i y j c _ hy hj=>hr i y j c hy hj,fun i j hi _=>Bool.noConfusion hi,rfl⟩
  obtain⟨i,y,j,c,rfl,_,_,hy,hj⟩:=qalh hn
  exact(hr i y j c hy hj).oneCell
theorem qacj{i i' j j' wd:Nat}(hj:j<wd)(hj':j'<wd)(h:i*wd+j=i'*wd+j'):i=i'∧j=j':=by
 have h1:(i*wd+j)/wd=i:=by rw[zec,Nat.mul_add_div (by omega)];simp[zez hj]
 have h2:(i'*wd+j')/wd=i':=by rw[zec,Nat.mul_add_div (by omega)];simp[zez hj']
 have:i=i':=by rw[←h1,←h2,h]
 subst this
 exact⟨rfl,by omega⟩
theorem qakq{s n N:Nat}(h:s+n≤N):(List.range' s n).Sublist (List.range' 0 N):=by
 have e1:List.range' 0 s++List.range' (0+s) (N-s)=List.range' 0 (s+(N-s)):=List.range'_append_1
 have e2:List.range' s n++List.range' (s+n) (N-s-n)=List.range' s (n+(N-s-n)):=List.range'_append_1
 rw[show n+(N-s-n)=N-s by omega] at e2
 rw[zbw,←e2,show s+(N-s)=N by omega] at e1
 rw[←e1]
 exact(zer _ _).trans (zem _ _)
theorem ROwnP.out{dead:Nat→Bool}{x:Arr U}{v:Value}{l:List Nat}(h:ROwnP E w F dead x v l)(hnd:l.Nodup){i off n:Nat}(hi:i<x.xs.length)(hal:dead i=false)(hle:off+n≤U.wd x.τ):
  ∃(b cap:Nat)(us:List Value)(gl:List (List Nat))(l':List Nat),v=.slice (some ⟨b,0,none⟩) x.xs.length cap∧us.length=n∧gl.length=n∧w.rangeAt b (i*U.wd x.τ+off) us∧
   (∀(j:Nat)(c:U.C),(((U.enc x.τ (x.xs.getD i (U.dflt x.τ))).drop off).take n)[j]? =some c→Rp E w F true c (us.getD j undef) (gl.getD j []))∧
   ROwnP E w F (fun j=>Nat.beq j i||dead j) x v l'∧(gl.flatten++l').Nodup∧∀b∈gl.flatten++l',b∈l:=by
 rcases h with⟨h0,_⟩|⟨b,cap,cur,vs,fps,rfl,hb,hc,hm,hs,hv,hr,hdd,rfl⟩
 ·rw[h0] at hi;simp at hi
 have hxi:=getD_of_lt (d:=U.dflt x.τ) hi
 have hcell:∀j,j<U.wd x.τ→i*U.wd x.τ+j<x.xs.length*U.wd x.τ:=fun j hj=>
  row_lt hxi (c:=(U.enc x.τ (x.xs.getD i (U.dflt x.τ)))[j]'(by rw[U.enc_len];exact hj)) (zad _)
 rw[zbe] at hnd
 obtain⟨hnb,hnf⟩:=hnd
 let fps':Nat→List Nat:=fun m=>if i*U.wd x.τ≤m∧m<i*U.wd x.τ+U.wd x.τ then[] else fps m
 have hfin:∀m,i*U.wd x.τ≤m∧m<i*U.wd x.τ+U.wd x.τ→fps' m=[]:=fun m hm=>if_pos hm
 have hfout:∀m,¬(i*U.wd x.τ≤m∧m<i*U.wd x.τ+U.wd x.τ)→fps' m=fps m:=fun m hm=>if_neg hm
 have hsub:((List.range (x.xs.length*U.wd x.τ)).flatMap fps').Sublist ((List.range (x.xs.length*U.wd x.τ)).flatMap fps):=qanb fun m _=>by
  simp only[fps'];split
  ·exact List.nil_sublist _
  ·exact zdi _
 have hmem:∀j,off+j<U.wd x.τ→∀b',b'∈fps (i*U.wd x.τ+(off+j))→b'∈(List.range (x.xs.length*U.wd x.τ)).flatMap fps:=fun j hj b' hb'=>zat.2 ⟨_,zay.2 (hcell _ hj),hb'⟩
 have hgl:((List.range n).map fun j=>fps (i*U.wd x.τ+(off+j))).flatten=(List.range n).flatMap fun j=>fps (i*U.wd x.τ+(off+j)):=by rw[zct]
 have hdisj:∀m m',m<x.xs.length*U.wd x.τ→m'<x.xs.length*U.wd x.τ→m≠m'→∀b',b'∈fps m→b'∉fps m':=fun m m' hm hm' hne b' hb'=>qaem hnf (zay.2 hm) (zay.2 hm') hne hb'
 refine⟨b,cap,(List.range n).map fun j=>vs (i*U.wd x.τ+(off+j)),(List.range n).map fun j=>fps (i*U.wd x.τ+(off+j)),b::(List.range (x.xs.length*U.wd x.τ)).flatMap fps',rfl,by simp,by simp,fun j u hu=> ?_,fun j c hj=> ?_,?_,?_,?_⟩
 ·rw[zal] at hu
  by_cases hjn:j<n
  ·rw[zcl hjn] at hu
   simp only[zcd,zae] at hu
   rw[cell_of_row w b _ cur _ (0,0) hb,←hu,show i*U.wd x.τ+off+j=i*U.wd x.τ+(off+j) by omega]
   exact(hv _ (hcell _ (by omega))).1
  ·rw[zaj (by simp;omega)] at hu;cases hu
 ·have hjn:j<n:=by
   rw[zan] at hj
   split at hj
   ·assumption
   ·cases hj
  rw[zan,if_pos hjn,zbv] at hj
  have:=hr i _ (off+j) c hal hxi hj
  rw[zac,zal,zcl hjn,zac,zal,zcl hjn]
  exact this
 ·refine .inr ⟨b,cap,cur,vs,fps',rfl,hb,hc,hm,hs,hv,fun k y j c hk hy hj=> ?_,fun k j hk hj=> ?_,rfl⟩
  ·simp only[zcp] at hk
   have hki:k≠i:=fun e=>by subst e;simp at hk
   have hjw:j<U.wd x.τ:=by
    rw[←U.enc_len x.τ y]
    rcases zba j (U.enc x.τ y).length with h|h
    ·exact h
    ·rw[zaj h] at hj;cases hj
   rw[hfout _ (fun hin=>hki (qacj hjw (show k*U.wd x.τ+j-i*U.wd x.τ<U.wd x.τ by omega) (by omega)).1)]
   exact hr k y j c hk.2 hy hj
  ·by_cases hki:k=i
   ·subst hki
    exact hfin _ ⟨by omega,by omega⟩
   ·rw[hfout _ (fun hin=>hki (qacj hj (show k*U.wd x.τ+j-i*U.wd x.τ<U.wd x.τ by omega) (by omega)).1)]
    refine hdd k j ?_ hj
    rw[zcn] at hk
    exact hk.resolve_left (fun e=>hki (by simpa using e))
 ·rw[hgl,zav]
  refine⟨?_,zbe.2 ⟨fun hb'=>hnb (hsub.subset hb'),hsub.nodup hnf⟩,fun b1 hb1 b2 hb2 he=> ?_⟩
  ·have hs2:((List.range n).map fun j=>i*U.wd x.τ+(off+j)).Sublist (List.range (x.xs.length*U.wd x.τ)):=by
    have e1:(List.range n).map (fun j=>i*U.wd x.τ+(off+j))=List.range' (i*U.wd x.τ+off) n:=by
     rw[List.range'_eq_map_range]
     exact zcr fun j _=>by omega
    rw[e1,List.range_eq_range']
    have hcl:=hcell (U.wd x.τ-1) (by have:=U.wd_pos x.τ;omega)
    exact qakq (by have:=U.wd_pos x.τ;omega)
   have:((List.range n).flatMap fun j=>fps (i*U.wd x.τ+(off+j)))=((List.range n).map fun j=>i*U.wd x.τ+(off+j)).flatMap fps:=by rw[List.flatMap_map]
   rw[this]
   have hs3:∀{l1 l2:List Nat},l1.Sublist l2→(l1.flatMap fps).Sublist (l2.flatMap fps):=by
    intro l1 l2 hh
    induction hh with
    |slnil=>exact zdi _
    |cons y _ ih=>rw[zbm];exact ih.trans (zem _ _)
    |cons_cons y _ ih=>rw[zbm,zbm];exact List.Sublist.append (zdi _) ih
   exact(hs3 hs2).nodup hnf
  ·subst he
   obtain⟨j,hj,hb1⟩:=zat.1 hb1
   rw[zay] at hj
   rcases zak.1 hb2 with rfl|hb2
   ·exact hnb (hmem j (by omega) _ hb1)
   ·obtain⟨m,hm',hb2⟩:=zat.1 hb2
    rw[zay] at hm'
    by_cases hin:i*U.wd x.τ≤m∧m<i*U.wd x.τ+U.wd x.τ
    ·rw[hfin m hin] at hb2;cases hb2
    ·rw[hfout m hin] at hb2
     exact hdisj _ m (hcell _ (by omega)) hm' (fun e=>hin (by omega)) b1 hb1 hb2
 ·intro b' hb'
  rcases zao.1 hb' with hb'|hb'
  ·rw[hgl] at hb'
   obtain⟨j,hj,hb'⟩:=zat.1 hb'
   rw[zay] at hj
   exact zaa _ (hmem j (by omega) _ hb')
  ·rcases zak.1 hb' with rfl|hb'
   ·exact zab
   ·exact zaa _ (hsub.subset hb')
theorem Sim.split(h:Sim E pm F kv fp σ a w){o:Oper}(hd:∀d,o.dst=some d→d<σ.n)(D:Dat U)(k:Key)(e0 e:Ent U)(he0:σ.ent k=some e0)(sv:SV U)(ps:List Prop)(v:Value)(l':List Nat)
  (hdn:(D.map (·.1)).Nodup)
  (hfr:∀s∈D,¬Names σ (o.dst.getD 1000000,s.1)) (hkn:Names σ k)
  (hsv:∀kv' fp' bad,(∀s∈D,kv' (o.dst.getD 1000000,s.1)=s.2.2.1)→RS E w F kv' fp' bad sv v)
  (hD:∀s∈D,∀kv fp bad,REnt E w F kv fp bad s.2.1 s.2.2.1 s.2.2.2)
  (hE:∀kv' fp' bad,REnt E w F kv' fp' bad e (kv k) l')
  (hnd:(D.bl++l').Nodup) (hin:∀b∈D.bl++l',b∈fp k):
  ∃kv fp,Sim E pm F kv fp (AM.apply o ⟨some sv,D.es,[],[(k,e)],ps⟩ σ) (a.put o.dst v) w:=by
 generalize hr:(⟨some sv,D.es,[],[(k,e)],ps⟩:Rslt U)=r
 have hadds:∀k',k'∈adds o r↔∃s∈D,k'=(o.dst.getD 1000000,s.1):=by
  intro k'
  rw[←hr]
  simp only[adds,Dat.es,zaz]
  constructor
  ·rintro⟨p,⟨s,hs,rfl⟩,rfl⟩;exact⟨s,hs,rfl⟩
  ·rintro⟨s,hs,rfl⟩;exact⟨_,⟨s,hs,rfl⟩,rfl⟩
 have hupds:upds r=[k]:=by rw[←hr];rfl
 have hkills:r.kills=[]:=by rw[←hr]
 have hka:k∉adds o r:=fun hk=>by
  obtain⟨s,hs,rfl⟩:=(hadds k).1 hk
  exact hfr s hs hkn
 have hother:∀k',k'∉adds o r→D.kvOf (o.dst.getD 1000000) kv k'=kv k'∧D.fpOf (o.dst.getD 1000000) (setKey fp k l') k'=setKey fp k l' k':=by
  intro k' hk'
  exact Dat.other (fun t ht e=>hk' ((hadds k').2 ⟨t,ht,e⟩)) kv (setKey fp k l')
 have hDof:∀s∈D,D.kvOf (o.dst.getD 1000000) kv (o.dst.getD 1000000,s.1)=s.2.2.1∧D.fpOf (o.dst.getD 1000000) (setKey fp k l') (o.dst.getD 1000000,s.1)=s.2.2.2:=fun s hs=>⟨Dat.kvOf_of hdn hs,Dat.fpOf_of hdn hs⟩
 rw[zav] at hnd
 obtain⟨hn1,hn2,hn3⟩:=hnd
 have hm:∀b∈fp k,¬F b∧(pm.W b∨pm.w0.heap.size≤b)∧b<w.heap.size:=fun b hb=>h.mine k e0 b he0 hb
 refine⟨D.kvOf (o.dst.getD 1000000) kv,D.fpOf (o.dst.getD 1000000) (setKey fp k l'),?_⟩
 refine h.apply (F':=F) (w':=w) o r v hd ?_ (fun k' hk'=>(hother k' hk').1) ?_ ?_ (fun b hb=>⟨hb,rfl⟩) (fun _ _ _ _ _ _ _ _=>rfl) ?_ ?_ ?_ h.Flt h.Fsub h.upto (zca _)
 ·intro sv' hsv'
  rw[←hr] at hsv'
  simp only[zae] at hsv'
  subst hsv'
  exact hsv _ _ _ fun s hs=>(hDof s hs).1
 ·intro k' h1 h2
  rw[(hother k' h1).2]
  rw[hupds] at h2
  exact qalv (by simpa using h2)
 ·intro k' hk'
  obtain⟨s,hs,rfl⟩:=(hadds k').1 hk'
  exact hfr s hs
 ·rintro k' e' (⟨j,rfl,hj⟩|hk')
  ·rw[←hr] at hj
   simp only[Dat.es,zaz] at hj
   obtain⟨s,hs,hj⟩:=hj
   obtain⟨rfl,rfl⟩:=Prod.mk.inj hj
   rw[(hDof s hs).1,(hDof s hs).2]
   exact⟨hD s hs _ _ _,Dat.bl_nodup hn1 hs,fun b hb=>hm b (hin b (zar _ (Dat.bl_mem.2 ⟨s,hs,hb⟩)))⟩
  ·rw[←hr] at hk'
   simp only[zau,zax] at hk'
   obtain⟨rfl,rfl⟩:=hk'
   rw[(hother k' hka).1,(hother k' hka).2,qalw]
   exact⟨hE _ _ _,hn2,fun b hb=>hm b (hin b (zas _ hb))⟩
 ·intro k' e' b _ _ _ he hb;exact(h.mine k' e' b he hb).1
 ·intro k1 k2 b hne hk1 hk2 hb
  rw[hupds,hkills] at hk2
  rw[hupds] at hk1
  have key:∀k',(k'∈adds o r∨k'∈[k])→∀b∈D.fpOf (o.dst.getD 1000000) (setKey fp k l') k',b∈fp k∧((∃s∈D,k'=(o.dst.getD 1000000,s.1)∧b∈s.2.2.2)∨(k'=k∧b∈l')):=by
   intro k' hk' b hb
   rcases hk' with hk'|hk'
   ·obtain⟨s,hs,rfl⟩:=(hadds k').1 hk'
    rw[(hDof s hs).2] at hb
    exact⟨hin b (zar _ (Dat.bl_mem.2 ⟨s,hs,hb⟩)),.inl ⟨s,hs,rfl,hb⟩⟩
   ·have:=zau.1 hk'
    subst this
    rw[(hother k' hka).2,qalw] at hb
    exact⟨hin b (zas _ hb),.inr ⟨rfl,hb⟩⟩
  obtain⟨g1,g2⟩:=key k1 hk1 b hb
  intro hb'
  rcases hk2 with hk2|hk2|⟨_,hk2⟩
  ·obtain⟨_,g4⟩:=key k2 (.inl hk2) b hb'
   rcases g2 with⟨s,hs,rfl,hbs⟩|⟨rfl,hbl⟩
   ·rcases g4 with⟨s',hs',rfl,hbs'⟩|⟨rfl,hbl'⟩
    ·exact Dat.bl_apart hn1 hs hs' (fun e=>hne (by rw[e])) hbs hbs'
    ·exact hn3 b (Dat.bl_mem.2 ⟨s,hs,hbs⟩) b hbl' rfl
   ·rcases g4 with⟨s',hs',rfl,hbs'⟩|⟨rfl,hbl'⟩
    ·exact hn3 b (Dat.bl_mem.2 ⟨s',hs',hbs'⟩) b hbl rfl
    ·exact hne rfl
  ·obtain⟨_,g4⟩:=key k2 (.inr hk2) b hb'
   rcases g2 with⟨s,hs,rfl,hbs⟩|⟨rfl,hbl⟩
   ·rcases g4 with⟨s',hs',rfl,hbs'⟩|⟨rfl,hbl'⟩
    ·exact Dat.bl_apart hn1 hs hs' (fun e=>hne (by rw[e])) hbs hbs'
    ·exact hn3 b (Dat.bl_mem.2 ⟨s,hs,hbs⟩) b hbl' rfl
   ·rcases g4 with⟨s',hs',rfl,hbs'⟩|⟨rfl,hbl'⟩
    ·exact hn3 b (Dat.bl_mem.2 ⟨s',hs',hbs'⟩) b hbl rfl
    ·exact hne rfl
  ·by_cases hk2a:k2∈adds o r
   ·obtain⟨_,g4⟩:=key k2 (.inl hk2a) b hb'
    rcases g2 with⟨s,hs,rfl,hbs⟩|⟨rfl,hbl⟩
    ·rcases g4 with⟨s',hs',rfl,hbs'⟩|⟨rfl,hbl'⟩
     ·exact Dat.bl_apart hn1 hs hs' (fun e=>hne (by rw[e])) hbs hbs'
     ·exact hn3 b (Dat.bl_mem.2 ⟨s,hs,hbs⟩) b hbl' rfl
    ·rcases g4 with⟨s',hs',rfl,hbs'⟩|⟨rfl,hbl'⟩
     ·exact hn3 b (Dat.bl_mem.2 ⟨s',hs',hbs'⟩) b hbl rfl
     ·exact hne rfl
   ·by_cases hk2k:k2=k
    ·obtain⟨_,g4⟩:=key k2 (.inr (by simp[hk2k])) b hb'
     rcases g2 with⟨s,hs,rfl,hbs⟩|⟨rfl,hbl⟩
     ·rcases g4 with⟨s',hs',rfl,hbs'⟩|⟨rfl,hbl'⟩
      ·exact hk2a ((hadds _).2 ⟨s',hs',rfl⟩)
      ·exact hn3 b (Dat.bl_mem.2 ⟨s,hs,hbs⟩) b hbl' rfl
     ·exact hne hk2k.symm
    ·rw[(hother k2 hk2a).2,qalv hk2k] at hb'
     obtain⟨e2,he2⟩:=zag.1 hk2
     exact h.apart k k2 e0 e2 b (Ne.symm hk2k) he0 he2 g1 hb'
theorem qaiq(h:Sim E pm F kv fp σ a w){o:Oper}(hd:∀d,o.dst=some d→d<σ.n){t:TypeId}{x:Operand}{sx:SV U}{y:AC U}{n:Nat}{g:Bool}{ks:List Key}{r:Rslt U}(ho:o.op=.load t x)
  (hx:RS E w F kv fp (badK σ) sx (a.eval x)) (hc:ac? sx=some y) (hnm:∀k∈y.keys,Names σ k) (hs:E.size t=some n) (hg:E.isAgg t=some g)
  (hr:moveAt (restrict σ.ent ks) (o.dst.getD 1000000) g n y=some r) (hp:∀p∈r.pre,p) (hfr:∀k∈adds o r,¬Names σ k)
  {next:Act→World→Prop} {Q:Exit→Act→World→Prop} (hn:∀F kv fp a' w',Sim E pm F kv fp (AM.apply o r σ) a' w'→next a' w'):o.wp E.P a w next Q:=by
 have hx:=qaaf hx hc
 unfold moveAt at hr
 split at hr
 rotate_left
 ·cases hr
 rename_i k i wd off
 split at hr
 rotate_left
 ·cases hr
 rename_i x0 dead he
 have he':=qald he
 rw[zah] at hr
 split at hr
 rotate_left
 ·cases hr
 rename_i hb
 simp only[zaf] at hb
 obtain⟨⟨hgn,hle⟩,hwd⟩:=hb
 have hle:=zbu hle
 have hwd:=zai hwd
 subst hwd
 simp only at hr
 have hpre:i<x0.xs.length∧dead i=false:=by
  rw[zah] at hr
  split at hr
  ·cases hr;exact⟨hp _ (by simp[Rslt.ofVal]),hp _ (by simp[Rslt.ofVal])⟩
  ·rw[zah] at hr
   split at hr
   ·cases hr;exact⟨hp _ (by simp[Rslt.ofVal]),hp _ (by simp[Rslt.ofVal])⟩
   rw[zah] at hr
   split at hr
   ·cases hr;exact⟨hp _ (by simp),hp _ (by simp)⟩
   ·cases hr
 obtain⟨hi,hal⟩:=hpre
 have hown:ROwnP E w F dead x0 (kv k) (fp k):=h.ents k _ he'
 obtain⟨b,cap,us,gl,l',h1,h2,h3,h4,h5,h6,h7,h8⟩:=hown.out (h.nodup k _ he') hi hal hle
 obtain⟨bb,oo,nn,cc,hnav,hv⟩:=RA_of hx (by simp[badAC])
 simp only[navS] at hnav
 rw[h1] at hnav
 simp only[Value.slice.injEq,zae,Addr.mk.injEq,and_true] at hnav
 obtain⟨⟨rfl,rfl⟩,_,_⟩:=hnav
 rw[zbw] at hv
 obtain⟨v,hv1,hv2⟩:=qagw hs hg hgn h2 h4
 have hrun:(execOp a.eval o).run E.P w=.ok (.value v) w:=by unfold execOp;simp only[ho,hv];exact run_v hv1
 have hcl:(((U.enc x0.τ (x0.xs.getD i (U.dflt x0.τ))).drop off).take n).length=n:=by simp[U.enc_len];omega
 rw[zah] at hr
 split at hr
 ·rename_i hpl
  cases hr
  refine qanv hrun (hn F kv fp _ _ (h.val o _ _ v hd (fun sv hsv=> ?_)))
  cases hsv
  refine⟨us,?_,hv2⟩
  exact qaae (by rw[h2,hcl]) fun j c hj=>by
   obtain⟨u,rfl⟩:=qajz hpl j c hj
   exact(h5 j _ hj).lit_any
 ·rw[zah] at hr
  split at hr
  ·cases hr
   refine qanv hrun (hn F kv fp _ _ (h.val o _ _ v hd (fun sv hsv=> ?_)))
   cases hsv
   refine⟨us,RDs_of (by rw[qadj,h2,hcl]) (fun j' y' u hy hu=> ?_),hv2⟩
   obtain⟨c,hc1,hc2⟩:=qadi hy
   have hrow:=h5 j' c hc1
   have hu':us.getD j' undef=u:=by rw[zac,hu];rfl
   rw[hu'] at hrow
   rcases hc2 with⟨v',rfl,rfl⟩|⟨τ',xs',rfl,rfl⟩
   ·obtain⟨_,e2,e3⟩:=hrow.lit_all
    subst e2
    exact⟨hrow.oneCell,.inr (.lit _ _ e3)⟩
   ·refine⟨hrow.oneCell,.inr ?_⟩
    have hbk:bb∈fp k:=by
     rcases hown with⟨h0,_⟩|⟨b',cap',cur',vs',fps',g1,_,_,_,_,_,_,_,g9⟩
     ·rw[h0] at hi;simp at hi
     ·rw[h1] at g1
      simp only[Value.slice.injEq,zae,Addr.mk.injEq,and_true] at g1
      rw[g9,←g1.1];simp
    refine⟨bb,0,_,cap,u,h1,.inr hbk,?_,rfl⟩
    rw[zbw,←zdl]
    exact h4 j' u hu
  rw[zah] at hr
  split at hr
  rotate_left
  ·cases hr
  rename_i hdis
  have hr':=zdx hr
  obtain⟨D,d1,d2,d3,d4⟩:=qakj (dst:=o.dst.getD 1000000) (base:=0) (vs:=us) (fl:=gl) (h2.trans hcl.symm) (h3.trans hcl.symm) h5
  have hsp:=h.split (o:=o) hd D k _ (.part x0 (fun j=>Nat.beq j i||dead j)) he' (.v ⟨g,(putCells (o.dst.getD 1000000) true 0 (((U.enc x0.τ (x0.xs.getD i (U.dflt x0.τ))).drop off).take n)).1⟩) [i<x0.xs.length,dead i=false] v l' ?_ ?_ (hnm k (by simp[AC.keys])) ?_ d2 ?_ (by rw[d3];exact h7) (by rw[d3];exact h8)
  ·obtain⟨kv',fp',hsim⟩:=hsp
   refine qanv hrun (hn F kv' fp' _ _ ?_)
   rw[←hr',d1];exact hsim
  ·have:=qadc.1 hdis
   rw[d1] at this
   simpa[Dat.es,Function.comp_def] using this
  ·intro s hs
   refine hfr _ ?_
   rw[←hr']
   simp only[adds,d1,Dat.es,zaz]
   exact⟨_,⟨s,hs,rfl⟩,rfl⟩
  ·intro kv' fp' bad hk
   exact⟨us,d4 kv' fp' bad hk,hv2⟩
  ·intro kv' fp' bad
   exact h6
theorem qajv(h:Sim E pm F kv fp σ a w){ks:List Key}{y:AC U}{v:Value}{b:Arr U}(hr:partOf (restrict σ.ent ks) y=some b)(hx:RD E w F kv fp (badK σ) y v):
  ∃k dead,y=.ref k []∧v=kv k∧ROwnP E w F dead b v (fp k):=by
 unfold partOf at hr
 split at hr
 ·rename_i k
  split at hr
  ·rename_i x dead he
   cases hr
   have h1:v=kv k:=RA_of hx rfl
   subst h1
   exact⟨k,dead,rfl,rfl,h.ents k _ (qald he)⟩
  ·cases hr
 ·cases hr
theorem ROwnP.slice{dead:Nat→Bool}{x:Arr U}{v:Value}{l:List Nat}(h:ROwnP E w F dead x v l):∃ad c,v=.slice ad x.xs.length c∧x.xs.length≤maxLen:=by
 rcases h with⟨h0,⟨ad,rfl⟩,_⟩|⟨b,cap,cur,vs,fps,rfl,_,hc,hm,_⟩
 ·exact⟨ad,0,by simp[h0],by simp[h0]⟩
 ·exact⟨_,_,rfl,zde hc hm⟩
theorem qahw(h:Sim E pm F kv fp σ a w){o:Oper}{t:TypeId}{x y:Operand}{sx sy:SV U}{k:Key}{ks:List Key}{kd:IntKind}{n:Int}{m:Nat}{b:Arr U}(ho:o.op=.indexAddr t x y)
  (hx:RS E w F kv fp (badK σ) sx (a.eval x)) (hc:ac? sx=some (.ref k [])) (hy:RS E w F kv fp (badK σ) sy (a.eval y)) (hl:lit? sy=some (.int kd n)) (hm:(E.elem t).bind E.size=some m)
  (ha:partOf (restrict σ.ent ks) (.ref k [])=some b) (hw:m=U.wd b.τ)
  (h1:0≤n) (h2:n.toNat<b.xs.length):Makes E F kv fp (badK σ) a w o (one (.eptr k [] n.toNat (U.wd b.τ) 0)):=by
 obtain⟨e,i,hu,hi,hs⟩:=elemSize hm
 have h3:=qaah hy hl
 have hrd:=qaaf hx hc
 obtain⟨k',dead,hk,hv0,hown⟩:=qajv h ha hrd
 cases hk
 rcases hown with⟨h0,_⟩|⟨b',cap,cur,vs,fps,h4,_⟩
 ·rw[h0] at h2;simp at h2
 ·refine⟨.pointer (some ⟨b',0+n.toNat*U.wd b.τ,none⟩),?_,RS_one ⟨⟨rfl,trivial⟩,.inr ⟨b',0,b.xs.length,cap,?_,by simp⟩⟩⟩
  ·unfold execOp;simp only[ho,h3,h4]
   rw[←hw,←hs]
   exact run_v (qagc hu hi h1 h2)
  ·simp only[navS];rw[←hv0,h4]
end AM
