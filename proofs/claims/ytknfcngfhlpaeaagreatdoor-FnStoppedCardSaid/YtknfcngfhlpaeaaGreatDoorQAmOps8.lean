import Derived.Test.YtknfcngfhlpaeaaGreatDoorQAmOps7
namespace AM
set_option linter.unusedVariables false
open Go
variable{U:kz}{E:Env U}{pm:Pm}
variable{F F':Nat->Prop}{kv:Key->Value}{fp:Key->List Nat}{σ:ak U}{a:Act}{w w':World}{bad:Key->Bool}
theorem Rp.sw{w w':World}{F F':Nat->Prop}{c:U.C}{v:Value}{l:List Nat}(h:Rp E w F true c v l)(hl:∀b∈l,w'.heap[b]? =w.heap[b]?):Rp E w' F' true c v l:=by
 generalize hm:true=m at h
 induction h with
 |lit m v h=>subst hm;exact .lit _ v h
 |nil m τ a c h=>subst hm;exact .nil _ τ a c h
 |shr=>cases hm
 |own τ xs b cap cur vs gr hb hc hmx hs hv hr ih=>
  refine .own τ xs b cap cur vs gr ?_ hc hmx hs hv (fun i x j c hx hj=>ih i x j c hx hj (fun b' bg=> ?_) rfl)
  ·rw[hl b (by simp)];exact hb
  ·exact hl b' (e8 _ (nF.2 ⟨_,n9.2 (fi hx hj),bg⟩))
theorem eg.sw{τ:U.Ty}{xs:List (U.T τ)}{vs:List Value}{fl:List (List Nat)}(h:eg E w F true τ xs vs fl)(An:∀b∈fl.flatten,w'.heap[b]? =w.heap[b]?):eg E w' F' true τ xs vs fl:=by
 refine⟨h.1,h.2.1,fun i x j c hx hj=>(h.2.2 i x j c hx hj).sw (fun b hb=>An b ?_)⟩
 have fU:i*U.wd τ+j<fl.length:=by rw[h.2.1];exact fi hx hj
 rw[dB,eW fU] at hb
 exact VW.2 ⟨_,DU fU,hb⟩
theorem eg.patch{deep:Bool}{τ:U.Ty}{xs:List (U.T τ)}{vs:List Value}{fl:List (List Nat)}(h:eg E w F deep τ xs vs fl){i off:Nat}{y:U.T τ}{ds:List U.C}{us:List Value}{gl:List (List Nat)}
  (hi:i<xs.length) (hd:U.dec τ ((U.enc τ (xs.getD i (U.ee τ))).take off++ds++(U.enc τ (xs.getD i (U.ee τ))).drop (off+ds.length))=some y) (hle:off+ds.length<=U.wd τ)
  (hul:us.length=ds.length) (Pf:gl.length=ds.length) (Gj:∀(n:Nat)(c:U.C),ds[n]? =some c->Rp E w F deep c (us.getD n undef) (gl.getD n [])):
  eg E w F deep τ (xs.set i y) (vs.take (i*U.wd τ+off)++us++vs.drop (i*U.wd τ+off+us.length)) (fl.take (i*U.wd τ+off)++gl++fl.drop (i*U.wd τ+off+gl.length)):=by
 obtain⟨h1,h2,h3⟩:=h
 have hN:i*U.wd τ+U.wd τ<=xs.length*U.wd τ:=by
  have:(i+1)*U.wd τ<=xs.length*U.wd τ:=ze _ hi
  rw[x_,Nv] at this
  exact this
 refine⟨by simp only[na,nE,Jt,JC];omega,by simp only[na,nE,Jt,JC];omega,fun n x j c hx hj=> ?_⟩
 have Gi:=U.lK τ _ y hd
 have MT:j<U.wd τ:=by
  rw[<-U.cY τ x]
  rcases nL j (U.enc τ x).length with h|h
  ·exact h
  ·rw[nb h] at hj;cases hj
 have aca:∀{α:Type}(l m:List α)(z:α)(k:Nat),m.length=ds.length->i*U.wd τ+off+m.length<=l.length->
   (l.take (i*U.wd τ+off)++m++l.drop (i*U.wd τ+off+m.length)).getD k z=if i*U.wd τ+off<=k/\k<i*U.wd τ+off+m.length then m.getD (k-(i*U.wd τ+off)) z else l.getD k z:=by
  intro α l m z k hm hl
  by_cases yH:k<i*U.wd τ+off
  ·rw[if_neg (by omega),H8 (by simp;omega),H8 (by simp;omega),dB,oT,if_pos yH,dB]
  ·by_cases kx:k<i*U.wd τ+off+m.length
   ·rw[if_pos (by omega),H8 (by simp;omega),Mf (by simp;omega)]
    congr 1;simp;omega
   ·rw[if_neg (by omega),Mf (by simp;omega),dB,Fx,dB]
    congr 2;simp;omega
 rw[aca vs us undef _ hul (by omega),aca fl gl [] _ Pf (by omega)]
 rw[hul,Pf]
 by_cases hni:n=i
 ·subst hni
  rw[ZF (by simpa using hi)] at hx
  cases hx
  rw[Gi] at hj
  have uR:=ff (d:=U.ee τ) hi
  by_cases hj1:j<off
  ·rw[if_neg (by omega),if_neg (by omega)]
   refine h3 n _ j c uR ?_
   rw[we,wg (by simp[U.cY];omega),oT,if_pos hj1] at hj
   exact hj
  ·by_cases hj2:j<off+ds.length
   ·rw[if_pos (by omega),if_pos (by omega)]
    have e:n*U.wd τ+j-(n*U.wd τ+off)=j-off:=by omega
    rw[e]
    refine Gj (j-off) c ?_
    have O2:((U.enc τ (xs.getD n (U.ee τ))).take off).length=off:=by simp[U.cY];omega
    rw[wg (by simp[U.cY];omega),ya (by omega),O2] at hj
    exact hj
   ·rw[if_neg (by omega),if_neg (by omega)]
    refine h3 n _ j c uR ?_
    have O2:((U.enc τ (xs.getD n (U.ee τ))).take off++ds).length=off+ds.length:=by simp[U.cY];omega
    rw[ya (by omega),O2,Fx] at hj
    rw[<-hj];congr 1;omega
 ·rw[zek (Ne.symm hni)] at hx
  have ab0:¬(i*U.wd τ+off<=n*U.wd τ+j/\n*U.wd τ+j<i*U.wd τ+off+ds.length):=by
   rintro⟨g1,g2⟩
   rcases nL n i with fU|Yf
   ·have:(n+1)*U.wd τ<=i*U.wd τ:=ze _ fU
    rw[x_,Nv] at this
    omega
   ·have:(i+1)*U.wd τ<=n*U.wd τ:=ze _ (by omega)
    rw[x_,Nv] at this
    omega
  rw[if_neg ab0,if_neg ab0]
  exact h3 n x j c hx hj
theorem aaB(N n:Nat)(h:n<N):List.range N=List.range n++n::(List.range (N-n-1)).map (·+(n+1)):=by
 have h1:N=n+((N-n-1)+1):=by omega
 conv=>lhs;rw[h1,List.range_add]
 congr 1
 rw[List.range_succ_eq_map,sS,List.map_map]
 simp only[HD,ZI,true_and]
 refine LW fun a _=> ?_
 simp only[Function.comp]
 omega
theorem eo.focus:∀{p:Path}{x b x':cC U}{v:Value}{l:List Nat}{ps:List Prop}{f:cC U->Option (cC U)},eo E w F true x v l->l.Nodup->walk p x=some (ps,b)->(∀q∈ps,q)->ZB p x f=some x'->
  ∃vb lb pre post b',f b=some b'/\nU w (fun c=>F c\/c∈l) v p vb/\eo E w F true b vb lb/\l=pre++lb++post/\
   ∀(w':World)(F':Nat->Prop)(Np:List Nat),b'.τ=b.τ->eo E w' F' true b' vb Np->(∀c∈pre++post,w'.heap[c]? =w.heap[c]?)->eo E w' F' true x' v (pre++Np++post):=by
 intro p
 induction p with
 |nil=>
  intro x b x' v l ps f h hn hw hp hc
  simp only[walk,fM,nT] at hw
  obtain⟨_,rfl⟩:=hw
  exact⟨v,l,[],[],x',hc,rfl,h,by simp,fun w' F' Np _ hb _=>by simpa using hb⟩
 |cons s p ih=>
  obtain⟨i,wd,j⟩:=s
  intro x b x' v l ps f h hn hw hp hc
  obtain⟨τ,xs⟩:=x
  simp only[walk] at hw
  cases tT:Nat.beq wd (U.wd τ)<;>simp only[tT,cond_false,cond_true] at hw
  ·cases hw
  ·have OZ:wd=U.wd τ:=mc tT
   subst OZ
   split at hw
   ·rename_i τ1 ys hx
    split at hw
    ·rename_i H_ b0 hw'
     simp only[fM,nT] at hw
     obtain⟨rfl,rfl⟩:=hw
     have hi:i<xs.length:=hp _ (by simp)
     have uR:=ff (d:=U.ee τ) hi
     simp only[ZB,hx] at hc
     split at hc
     ·rename_i b1 sM
      split at hc
      ·rename_i x1 Zf
       rw[aaO Zf] at hc
       cases hc
       rcases h with⟨h0,_⟩|⟨g,cap,cur,vs,gr,h1,h2,h3,h4,h5,h6,h7,h8⟩
       ·simp only at h0;subst h0;simp at hi
       ·simp only at h1 h2 h3 h5 h6 h7 h8
        have fU:=fi uR hx
        have nN:=(h7 i _ j _ uR hx).F9
        have TL:l=(g::(List.range (i*U.wd τ+j)).flatMap gr)++gr (i*U.wd τ+j)++((List.range (xs.length*U.wd τ-(i*U.wd τ+j)-1)).map (·+(i*U.wd τ+j+1))).flatMap gr:=by
         rw[h8,aaB _ _ fU,Nj,yb]
         simp[we]
        have TS:(gr (i*U.wd τ+j)).Nodup:=by
         rw[TL] at hn
         exact(p8.1 (p8.1 hn).1).2.1
        obtain⟨vb,lb,pre,post,b',f1,f2,f3,f4,f5⟩:=ih (x:=⟨τ1,ys⟩) nN TS hw' (fun q hq=>hp q (by simp[hq])) sM
        have hgc:w.cell? ⟨g,0+(i*U.wd τ+j),none⟩=some (vs (i*U.wd τ+j)):=by
         rw[tH,cell_of_row w g _ cur _ (0,0) h2];exact h6 _ fU
        refine⟨vb,lb,(g::(List.range (i*U.wd τ+j)).flatMap gr)++pre,post++((List.range (xs.length*U.wd τ-(i*U.wd τ+j)-1)).map (·+(i*U.wd τ+j+1))).flatMap gr,b',f1,?_,f3,?_,?_⟩
        ·refine⟨g,0,_,_,vs (i*U.wd τ+j),h1,.inr (by rw[TL];simp),hgc,f2.fC (fun c hc=>⟨?_,rfl⟩)⟩
         rcases hc with hc|hc
         ·exact .inl hc
         ·exact .inr (by rw[TL];simp[hc])
        ·rw[TL,f4];simp[we]
        ·intro w' F' Np Jw bg iv
         have o_:=f5 w' F' Np Jw bg (fun c hc=>iv c (by
          rcases jE.1 hc with hc|hc<;>simp[hc]))
         have Gi:=U.lK τ _ x1 Zf
         refine .inr ⟨g,cap,cur,vs,fun n=>if n=i*U.wd τ+j then pre++Np++post else gr n,by simpa using h1,?_,by simpa using h3,h4,h5,by simpa using h6,fun n y m c hy hm=> ?_,?_⟩
         ·rw[iv g (by simp)];exact h2
         ·simp only at hy
          by_cases tW:n=i/\m=j
          ·obtain⟨rfl,rfl⟩:=tW
           rw[ZF (by simpa using hi)] at hy
           cases hy
           rw[Gi] at hm
           have hmj:m<(U.enc τ (xs.getD n (U.ee τ))).length:=by
            rcases nL m (U.enc τ (xs.getD n (U.ee τ))).length with h|h
            ·exact h
            ·rw[nb h] at hx;cases hx
           rw[ZF hmj] at hm
           cases hm
           simp only[if_true]
           exact o_.NJ
          ·have hold:∃z,xs[n]? =some z/\(U.enc τ z)[m]? =some c:=by
            by_cases hni:n=i
            ·subst hni
             rw[ZF (by simpa using hi)] at hy
             cases hy
             rw[Gi,zek (fun e=>tW ⟨rfl,e.symm⟩)] at hm
             exact⟨_,uR,hm⟩
            ·rw[zek (Ne.symm hni)] at hy
             exact⟨y,hy,hm⟩
           obtain⟨z,hz,tX⟩:=hold
           have hmw:m<U.wd τ:=by
            rw[<-U.cY τ z]
            rcases nL m (U.enc τ z).length with h|h
            ·exact h
            ·rw[nb h] at tX;cases tX
           have MT:j<U.wd τ:=by
            rw[<-U.cY τ (xs.getD i (U.ee τ))]
            rcases nL j (U.enc τ (xs.getD i (U.ee τ))).length with h|h
            ·exact h
            ·rw[nb h] at hx;cases hx
           have d_:n*U.wd τ+m≠i*U.wd τ+j:=by
            intro e
            have h1:(n*U.wd τ+m)/U.wd τ=n:=by rw[Q6,Nat.mul_add_div (U.kp τ),zez hmw,HD]
            have h2:(i*U.wd τ+j)/U.wd τ=i:=by rw[Q6,Nat.mul_add_div (U.kp τ),zez MT,HD]
            have:n=i:=by rw[<-h1,e,h2]
            exact tW ⟨this,by subst this;omega⟩
           show Rp E w' F' true c (vs (n*U.wd τ+m)) (if n*U.wd τ+m=i*U.wd τ+j then pre++Np++post else gr (n*U.wd τ+m))
           rw[if_neg d_]
           have am4:=fi hz tX
           refine(h7 n z m c hz tX).sw (fun c' l_=>iv c' ?_)
           rcases Nat.lt_or_gt_of_ne d_ with Gc|hgt
           ·simp only[jE,jF,nF,n9]
            exact .inl (.inl (.inr ⟨_,Gc,l_⟩))
           ·simp only[jE,nF,kW,n9]
            refine .inr (.inr ⟨n*U.wd τ+m,⟨n*U.wd τ+m-(i*U.wd τ+j+1),by omega,by omega⟩,l_⟩)
         ·simp only[JC]
          rw[aaB _ _ fU,Nj,yb,if_pos rfl]
          have e1:(List.range (i*U.wd τ+j)).flatMap (fun n=>if n=i*U.wd τ+j then pre++Np++post else gr n)=(List.range (i*U.wd τ+j)).flatMap gr:=by
           rw[LV,LV]
           congr 1
           refine LW fun n hn=> ?_
           rw[if_neg (by have:=n9.1 hn;omega)]
          have e2:((List.range (xs.length*U.wd τ-(i*U.wd τ+j)-1)).map (·+(i*U.wd τ+j+1))).flatMap (fun n=>if n=i*U.wd τ+j then pre++Np++post else gr n)=((List.range (xs.length*U.wd τ-(i*U.wd τ+j)-1)).map (·+(i*U.wd τ+j+1))).flatMap gr:=by
           rw[LV,LV]
           congr 1
           refine LW fun n hn=> ?_
           obtain⟨m,_,rfl⟩:=kW.1 hn
           rw[if_neg (by omega)]
          rw[e1,e2]
          simp[we]
      ·cases hc
     ·cases hc
    ·cases hw
   ·cases hw
theorem cG.Q_(h:cG E pm F kv fp σ a w){o:Oper}(ho:o.dst=none)(k:Key)(e0 e:ie U)(mD:σ.bH k=some e0)(ks:List Key)(ps:List Prop)(zo:List Nat)(C8:k∉ks)
  (hE:∀bad,(∀k',oQ w w' kv kv fp (c_ fp k zo) (bR σ) bad k')->sg E w' F' kv (c_ fp k zo) bad e (kv k) zo)
  (zx:∀b,F b->F' b/\w'.heap[b]? =w.heap[b]?)
  (Db:∀b,F' b->F b\/∃k'∈k::ks,(σ.bH k').isSome=true/\b∈fp k')
  (iN:∀k' e,k'≠k->k'∉ks->σ.bH k'=some e->∀b∈fp k',w'.heap[b]? =w.heap[b]?)
  (o9:zo.Nodup) (Nq:∀b∈zo,¬F' b/\∃k'∈k::ks,(σ.bH k').isSome=true/\b∈fp k')
  (oV:gq (fun b=>pm.W b\/pm.w0.heap.size<=b) w w'):
  cG E pm F' kv (c_ fp k zo) (AM.apply o ⟨none,[],ks,[(k,e)],ps⟩ σ) (a.put o.dst undef) w':=by
 have jS:dk o (⟨none,[],ks,[(k,e)],ps⟩:bX U)=[]:=rfl
 have kj:jh (⟨none,[],ks,[(k,e)],ps⟩:bX U)=[k]:=rfl
 have oW:∀k',oQ w w' kv kv fp (c_ fp k zo) (bR σ) (bR (AM.apply o ⟨none,[],ks,[(k,e)],ps⟩ σ)) k':=by
  intro k'
  refine⟨rfl,?_⟩
  by_cases hk:k'=k
  ·left
   subst hk
   have:(AM.apply o (⟨none,[],ks,[(k',e)],ps⟩:bX U) σ).aR.any (ik k')=true:=q_.2 (by simp[AM.apply])
   simp[bR,this]
  ·by_cases X8:k'∈ks
   ·left
    simp[bR,W0 o _ σ k' (by rw[jS];simp) (by rw[kj];simpa using hk) X8]
   ·have hee:=WY o (⟨none,[],ks,[(k,e)],ps⟩:bX U) σ k' (by rw[jS];simp) (by rw[kj];simpa using hk) X8
    have Kl:(AM.apply o (⟨none,[],ks,[(k,e)],ps⟩:bX U) σ).aR.any (ik k')=σ.aR.any (ik k'):=by
     rw[DX,q_,q_]
     simp[AM.apply,hk]
    cases hb:bR σ k'
    ·right
     refine⟨rfl,zR hk,?_⟩
     simp only[bR,Nl] at hb
     obtain⟨e',ew⟩:∃e,σ.bH k'=some e:=by
      cases hx:σ.bH k' with
      |none=>rw[hx] at hb;simp at hb
      |some e=>exact⟨e,rfl⟩
     exact iN k' e' hk X8 ew
    ·left
     simp only[bR] at hb⊢
     rw[hee,Kl];exact hb
 have o_:∀b,(∃k'∈k::ks,(σ.bH k').isSome=true/\b∈fp k')->(pm.W b\/pm.w0.heap.size<=b)/\b<w.heap.size:=by
  rintro b ⟨k',_,hl,hb⟩
  obtain⟨e',ew⟩:=l6.1 hl
  exact(h.fj k' e' b ew hb).2
 refine h.apply o _ undef (fun x hx=>by rw[ho] at hx;cases hx) ?_ (fun _ _=>rfl) ?_ ?_ zx ?_ ?_ ?_ ?_ ?_ ?_ (h.upto.trans oV) oV.size
 ·intro x hx;cases hx
 ·intro k' _ hk;rw[kj] at hk;exact zR (by simpa using hk)
 ·intro k' hk;rw[jS] at hk;simp at hk
 ·intro k' e' _ hk kx he b hb;rw[kj] at hk;exact iN k' e' (by simpa using hk) kx he b hb
 ·rintro k' e' (⟨j,_,hj⟩|hk)
  ·simp at hj
  ·simp only[mb,nT] at hk
   obtain⟨rfl,rfl⟩:=hk
   rw[sE]
   refine⟨hE _ oW,o9,fun b hb=> ?_⟩
   obtain⟨h1,h2⟩:=Nq b hb
   have h3:=o_ b h2
   have:=oV.size
   exact⟨h1,h3.1,by omega⟩
 ·intro k' e' b _ hk kx he hb uT
  rw[kj] at hk
  rcases Db b uT with h1|⟨k2,C9,hl,bg⟩
  ·exact(h.fj k' e' b he hb).1 h1
  ·obtain⟨e2,sJ⟩:=l6.1 hl
   exact h.apart k' k2 e' e2 b (fun e=>by subst e;rcases jF.1 C9 with rfl|h;exact hk (by simp);exact kx h) he sJ hb bg
 ·intro k1 k' b d_ hk cK hb
  rw[jS,kj] at hk cK
  simp only[mb,LX,false_or] at hk cK
  subst hk
  rw[sE] at hb
  rcases cK with rfl|⟨cK,Gf⟩
  ·exact absurd rfl d_
  ·rw[zR (Ne.symm d_)]
   obtain⟨e',ew⟩:=l6.1 Gf
   intro bg
   obtain⟨k2,kx,hl,ic⟩:=(Nq b hb).2
   obtain⟨e2,sJ⟩:=l6.1 hl
   exact h.apart k2 k' e2 e' b (fun e=>by subst e;rcases jF.1 kx with rfl|h;exact d_ rfl;exact cK h) sJ ew ic bg
 ·intro b hb
  rcases Db b hb with h1|h1
  ·have:=h.sO b h1;have:=oV.size;omega
  ·have:=(o_ b h1).2;have:=oV.size;omega
 ·intro b hb
  rcases Db b hb with h1|h1
  ·exact h.sN b h1
  ·exact .inr (o_ b h1).1
theorem Rk{P:Program}{t:TypeId}{n g off:Nat}{cur:Array Value}{e:TypeId}{v:Value}(hs:(P.info? t).map (·.size)=some n)(hv:v.cells.size=n)(h1:∀u∈v.cells.toList,u.oneCell'=true)
  (hg:w.heap[g]? =some (.cells cur e (0,0))) (hle:off+n<=cur.size):
  (Instr.storeAt t (.pointer (some ⟨g,off,none⟩)) v).run P w=.ok () (w.setRow g (cur.toList.take off++v.cells.toList++cur.toList.drop (off+n)).toArray):=by
 cases hq:P.info? t with
 |none=>rw[hq] at hs;cases hs
 |some i=>
  rw[hq] at hs
  simp only[D3,fM] at hs
  have oW:=run_storeCells_at P g off e v.cells.toList 0 cur w hg (by simp;omega) h1
  simp only[HD,D4] at oW
  simp[Instr.storeAt,Instr.sureAddr,storeVar,Go.sizeOf,typeInfo,hq,oW,hv]
  omega
theorem kU.fJ{xs:List (AC U)}{vs:List Value}(h:kU E w F kv fp bad xs vs):∀v∈vs,v.oneCell'=true:=by
 intro v hv
 obtain⟨n,hn,rfl⟩:=qD hv
 exact(h.2 n (xs[n]'(by rw[h.1];exact hn)) _ (eW _) (eW hn)).1.1
theorem ahw(h:cG E pm F kv fp σ a w){o:Oper}(ho:o.dst=none){t:TypeId}{x y:Operand}(qB:o.op=.store t x y){sx:SV U}{yx:AC U}{z:AV U}{n:Nat}{rs:List Key}{r:bX U}
  (hx:RS E w F kv fp (bR σ) sx (a.eval x)) (w6:tG sx=some yx) (hy:RS E w F kv fp (bR σ) (.v z) (a.eval y)) (hs:E.size t=some n) (hn:n=z.cs.length)
  (hr:storeAt (restrict σ.bH rs) σ.aR z yx=some r) (hp:∀p∈r.pre,p) {next:Act->World->Prop} {Q:Exit->Act->World->Prop}
  (Si:∀F kv fp a' w',cG E pm F kv fp (AM.apply o r σ) a' w'->next a' w'):o.wp E.P a w next Q:=by
 have Aj:=kr hx w6
 obtain⟨gM,sz⟩:=Mi hy
 have exec:∀{w1},(Instr.storeAt t (a.eval x) (a.eval y)).run E.P w=.ok () w1->(execOp a.eval o).run E.P w=.ok .skip w1:=by
  intro w1 hr
  unfold execOp;simp only[qB]
  rw[Sem.run_bind,hr];rfl
 unfold storeAt at hr
 split at hr
 ·rename_i k off
  split at hr
  ·rename_i cs he
   have ew:=jx he
   cases hb:Nat.ble (off+z.cs.length) cs.length<;>simp only[hb,cond_false,cond_true] at hr
   ·cases hr
   ·have hle:=HG hb
    cases hr
    obtain⟨b,h1,h2⟩:=ca Aj rfl
    obtain⟨b',cur,e,h3,h4,h5,h6⟩:=h.cW k _ ew
    rw[h1] at h3;cases h3
    have gB:cs.length=cur.size:=by simpa using h6.1
    have iM:=Rk (P:=E.P) (n:=n) (off:=off) (v:=a.eval y) hs (by rw[sz];exact hn.symm) gM.fJ h4 (by omega)
    rw[<-h2] at iM
    refine NZ (exec iM) (Si F kv (c_ fp k [b]) _ _ (h.Q_ ho k _ _ ew [] [] [b] (by simp) ?_ ?_ ?_ ?_ ?_ ?_ ?_))
    ·intro bad oW
     refine⟨b,_,e,h1,setRow_heap w b cur _ _ _ h4,rfl,?_⟩
     have uT:∀b',F b'->F b'/\(w.setRow b (cur.toList.take off++(a.eval y).cells.toList++cur.toList.drop (off+n)).toArray).heap[b']? =w.heap[b']? :=fun b' bg=>
      ⟨bg,setRow_other w b b' _ (fun e=>(h.fj k _ b ew (by rw[h5];simp)).1 (e▸bg))⟩
     have:=(((h6.take off).append gM).append (h6.drop (off+n))).move (bad':=bad) (kv':=kv) (fp':=c_ fp k [b]) (fun _ _ k' _=>oW k') uT
     rw[hn] at this⊢
     simpa using this
    ·intro b' bg;exact⟨bg,setRow_other w b b' _ (fun e=>(h.fj k _ b ew (by rw[h5];simp)).1 (e▸bg))⟩
    ·intro b' bg;exact .inl bg
    ·intro k' e' hk _ sJ b' bg
     exact setRow_other w b b' _ (fun e=>h.apart k' k _ _ b' hk sJ ew bg (by rw[h5,e];simp))
    ·simp
    ·intro b' bg
     rw[mb.1 bg]
     exact⟨(h.fj k _ b ew (by rw[h5];simp)).1,k,by simp,by simp[ew],by rw[h5];simp⟩
    ·exact⟨rfl,rfl,rfl,by simp,fun b' _ IA=>setRow_other w b b' _ (fun e=>IA (by rw[e];exact(h.fj k _ b ew (by rw[h5];simp)).2.1))⟩
  ·cases hr
 ·rename_i k p i wd off
  split at hr
  ·rename_i x0 d he
   have ew:=jx he
   cases gB:fm (restrict σ.bH rs) σ.aR k p<;>simp only[gB,cond_false,cond_true] at hr
   ·cases hr
   ·split at hr
    ·rename_i ps b hw
     split at hr
     ·rename_i qs ds ks d' zu
      split at hr
      ·rename_i x' Ub
       cases mi:(Nat.beq wd (U.wd b.τ)&&Nat.ble (off+ds.length) (U.wd b.τ)&&distinct (k::ks)&&((d&&d')||p.isEmpty))<;>simp only[mi,cond_false,cond_true] at hr
       ·cases hr
       ·cases hr
        simp only[cH] at mi
        obtain⟨⟨⟨c1,c2⟩,c3⟩,c4⟩:=mi
        have tT:=mc c1
        subst tT
        have hle:=HG c2
        have sP:=tf.1 c3
        have C8:k∉ks:=(sC.1 sP).1
        have hi:i<b.xs.length:=hp _ (by simp)
        have Kg:∀q∈ps,q:=fun q hq=>hp q (by simp[hq])
        obtain⟨t1,t2,t3,t4⟩:=JZ h zu (fun q hq=>hp q (by simp[hq])) gM (sC.1 sP).2
        obtain⟨bb,oo,nn,cc,nt,hv⟩:=ca Aj (FM gB he)
        have nq:eo E w F d x0 (kv k) (fp k):=h.cW k _ ew
        have o9:=h.nodup k _ ew
        have hdl:ds.length=n:=by rw[t1,hn]
        have Zu:(a.eval y).cells.toList.length=ds.length:=by simp[sz,t1]
        have node:∀{g cap:Nat}{cur:Array Value}{vs:List Value},(.slice (some ⟨bb,oo,none⟩) nn cc:Value)=.slice (some ⟨g,0,none⟩) b.xs.length cap->w.heap[g]? =some (.cells cur (E.tid b.τ) (0,0))->b.xs.length<=cap->
          cur.size=cap*U.wd b.τ->cur.toList.take (b.xs.length*U.wd b.τ)=vs->
          (Instr.storeAt t (a.eval x) (a.eval y)).run E.P w=.ok () (w.setRow g (cur.toList.take (i*U.wd b.τ+off)++(a.eval y).cells.toList++cur.toList.drop (i*U.wd b.τ+off+n)).toArray)/\
          (cur.toList.take (i*U.wd b.τ+off)++(a.eval y).cells.toList++cur.toList.drop (i*U.wd b.τ+off+n)).toArray.size=cap*U.wd b.τ/\
          (cur.toList.take (i*U.wd b.τ+off)++(a.eval y).cells.toList++cur.toList.drop (i*U.wd b.τ+off+n)).toArray.toList.take (b.xs.length*U.wd b.τ)=
           vs.take (i*U.wd b.τ+off)++(a.eval y).cells.toList++vs.drop (i*U.wd b.τ+off+(a.eval y).cells.toList.length):=by
         intro g cap cur vs e1 e2 e3 e4 e5
         simp only[Value.slice.injEq,fM,Addr.mk.injEq,and_true] at e1
         obtain⟨⟨rfl,rfl⟩,_,_⟩:=e1
         have hN:i*U.wd b.τ+U.wd b.τ<=b.xs.length*U.wd b.τ:=by
          have:(i+1)*U.wd b.τ<=b.xs.length*U.wd b.τ:=ze _ hi
          rw[x_,Nv] at this
          exact this
         have yJ:b.xs.length*U.wd b.τ<=cap*U.wd b.τ:=ze _ e3
         have iM:=Rk (P:=E.P) (n:=n) (off:=i*U.wd b.τ+off) (v:=a.eval y) hs (by rw[sz];exact hn.symm) gM.fJ e2 (by omega)
         refine⟨by rw[hv,tH];exact iM,by simp only[Q8,na,nE,Jt,D4,sz,<-hn];omega,?_⟩
         subst e5
         refine QO fun m=> ?_
         rw[oT]
         by_cases hm:m<b.xs.length*U.wd b.τ
         ·rw[if_pos hm]
          by_cases h1:m<i*U.wd b.τ+off
          ·rw[we,wg (by simp;omega),we,wg (by simp;omega),oT,if_pos h1,oT,if_pos h1,oT,if_pos hm]
          ·by_cases h2:m<i*U.wd b.τ+off+n
           ·rw[wg (by simp[sz,<-hn];omega),ya (by simp;omega),wg (by simp[sz,<-hn];omega),ya (by simp;omega)]
            congr 1;simp;omega
           ·rw[ya (by simp[sz,<-hn];omega),ya (by simp[sz,<-hn];omega),Fx,Fx,oT,if_pos (by simp[sz,<-hn];omega)]
            congr 1;simp[sz,<-hn];omega
         ·rw[if_neg hm,nb]
          simp only[na,nE,Jt,D4,sz,<-hn]
          omega
        have Gg:∀b'∈k::ks,(σ.bH b').isSome=true:=fun k' cK=>by
         rcases jF.1 cK with rfl|cK
         ·simp[ew]
         ·exact t2 k' cK
        have Da:∀k'∈k::ks,∀b'∈fp k',¬F b'/\(pm.W b'\/pm.w0.heap.size<=b'):=fun k' cK b' bg=>by
         obtain⟨e,he⟩:=l6.1 (Gg k' cK)
         exact⟨(h.fj k' e b' he bg).1,(h.fj k' e b' he bg).2.1⟩
        have Lv:∀k'∈ks,∀b'∈fp k',b'∉fp k:=fun k' cK b' bg sL=>by
         obtain⟨e,he⟩:=l6.1 (t2 k' cK)
         exact h.apart k' k _ _ b' (fun e=>C8 (e▸cK)) he ew bg sL
        have jA:∀{g:Nat},g∈fp k->∀(cells:Array Value) k' e,k'≠k->k'∉ks->σ.bH k'=some e->∀b'∈fp k',(w.setRow g cells).heap[b']? =w.heap[b']? :=fun hg cells k' e' hk _ sJ b' bg=>
         setRow_other w _ b' _ (fun e=>h.apart k' k _ _ b' hk sJ ew bg (e▸hg))
        have abB:∀{g:Nat},g∈fp k->∀(cells:Array Value),gq (fun b=>pm.W b\/pm.w0.heap.size<=b) w (w.setRow g cells):=fun hg cells=>
         ⟨rfl,rfl,rfl,by simp,fun b' _ IA=>setRow_other w _ b' _ (fun e=>IA (e▸(Da k (by simp) _ hg).2))⟩
        cases jR:(d&&d') with
        |true=>
         simp only[cH] at jR
         obtain⟨rfl,rfl⟩:=jR
         obtain⟨gl,gl1,gl2,gl3,gl4⟩:=t3 rfl
         obtain⟨vb,lb,pre,post,b',f1,f2,f3,f4,f5⟩:=nq.focus o9 hw Kg Ub
         have hvb:vb=.slice (some ⟨bb,oo,none⟩) nn cc:=f2.unique nt
         rcases f3.rows with⟨h3,_⟩|⟨g,cap,cur,vs,fl,h3,h4,h5,h6,h7,h8,h9,rv⟩
         ·rw[h3] at hi;simp at hi
         ·obtain⟨n1,n2,n3⟩:=node (hvb▸h3) h4 h5 h7 h8
          rw[WE] at f1
          split at f1
          ·rename_i yy Km
           cases f1
           have C5:=h9.patch hi Km hle Zu gl1 gl2
           have Pg:g∈fp k:=by rw[f4,rv];simp
           have aj9:(g::fl.flatten).Nodup:=by
            rw[f4,rv] at o9
            exact(p8.1 (p8.1 o9).1).2.1
           have abY:∀b'∈gl.flatten,b'∉fp k:=fun b' bg=>by
            obtain⟨k',cK,bg⟩:=gl4 b' bg
            exact Lv k' cK b' bg
           have o8:((fl.take (i*U.wd b.τ+off)).flatten++(fl.drop (i*U.wd b.τ+off+gl.length)).flatten).Sublist fl.flatten:=by
            have h1:fl.flatten=(fl.take (i*U.wd b.τ+off)).flatten++(fl.drop (i*U.wd b.τ+off)).flatten:=by rw[<-Ju,QP]
            have h2:(fl.drop (i*U.wd b.τ+off)).flatten=((fl.drop (i*U.wd b.τ+off)).take gl.length).flatten++((fl.drop (i*U.wd b.τ+off)).drop gl.length).flatten:=by rw[<-Ju,QP]
            rw[h1,h2,List.drop_drop]
            exact List.Sublist.append_left (zem _ _) _
           have T_:(fl.take (i*U.wd b.τ+off)++gl++fl.drop (i*U.wd b.τ+off+gl.length)).flatten=(fl.take (i*U.wd b.τ+off)).flatten++gl.flatten++(fl.drop (i*U.wd b.τ+off+gl.length)).flatten:=by
            simp[Ju]
           have O_:∀c∈(fl.take (i*U.wd b.τ+off)++gl++fl.drop (i*U.wd b.τ+off+gl.length)).flatten,c∈gl.flatten\/c∈fl.flatten:=by
            intro c hc
            rw[T_,jE,jE] at hc
            rcases hc with(hc|hc)|hc
            ·exact .inr (o8.subset (by simp[hc]))
            ·exact .inl hc
            ·exact .inr (o8.subset (pd _ hc))
           have ake:∀c∈(fl.take (i*U.wd b.τ+off)++gl++fl.drop (i*U.wd b.τ+off+gl.length)).flatten,c≠g:=by
            intro c hc e
            rcases O_ c hc with hc|hc
            ·exact abY c hc (e▸Pg)
            ·exact(sC.1 aj9).1 (e▸hc)
           have Ga:=eo.mU (E:=E) (w:=w.setRow g (cur.toList.take (i*U.wd b.τ+off)++(a.eval y).cells.toList++cur.toList.drop (i*U.wd b.τ+off+n)).toArray) (F:=F) (setRow_heap w g cur _ _ _ h4) (by simpa using h5) h6 n2
            (by rw[JC];exact n3) (C5.sw (fun c hc=>setRow_other w g c _ (ake c hc)))
           rw[JC] at Ga
           have hpp:∀c∈pre++post,c≠g:=by
            intro c hc e
            subst e
            rw[f4,rv] at o9
            have abL:=p8.1 o9
            have aj6:=p8.1 abL.1
            rcases jE.1 hc with hc|hc
            ·exact aj6.2.2 c hc c (by simp) rfl
            ·exact abL.2.2 c (by simp) c hc rfl
           have zw:=f5 (w.setRow g (cur.toList.take (i*U.wd b.τ+off)++(a.eval y).cells.toList++cur.toList.drop (i*U.wd b.τ+off+n)).toArray) F _ rfl (by rw[h3];exact Ga) (fun c hc=>setRow_other w g c _ (hpp c hc))
           refine NZ (exec n1) (Si F kv (c_ fp k _) _ _ (h.Q_ ho k _ _ ew ks _ _ C8 (fun bad oW=>zw) ?_ (fun b' bg=> .inl bg) (jA Pg _) ?_ ?_ (abB Pg _)))
           ·intro b' bg;exact⟨bg,setRow_other w g b' _ (fun e=>(Da k (by simp) g Pg).1 (e▸bg))⟩
           ·have IG:(pre++(g::((fl.take (i*U.wd b.τ+off)).flatten++(fl.drop (i*U.wd b.τ+off+gl.length)).flatten))++post).Nodup:=by
             rw[f4,rv] at o9
             exact(List.Sublist.append_right (List.Sublist.append_left (List.Sublist.cons_cons _ o8) _) _).nodup o9
            have hG:(gl.flatten++(pre++(g::((fl.take (i*U.wd b.τ+off)).flatten++(fl.drop (i*U.wd b.τ+off+gl.length)).flatten))++post)).Nodup:=by
             refine p8.2 ⟨gl3,IG,fun c hc c' l_ e=> ?_⟩
             subst e
             refine abY c hc ?_
             rw[f4,rv]
             simp only[jE,jF] at l_⊢
             rcases l_ with(l_|l_|l_|l_)|l_
             ·exact .inl (.inl l_)
             ·exact .inl (.inr (.inl l_))
             ·exact .inl (.inr (.inr (o8.subset (by simp[l_]))))
             ·exact .inl (.inr (.inr (o8.subset (pd _ l_))))
             ·exact .inr l_
            rw[T_]
            refine(List.Perm.nodup_iff ?_).2 hG
            refine List.perm_iff_count.2 fun c=> ?_
            simp only[List.count_append,List.count_cons]
            omega
           ·intro b' bg
            simp only[jE,jF] at bg
            have Pt:b'∈fp k\/b'∈gl.flatten:=by
             rcases bg with(bg|bg|bg)|bg
             ·left;rw[f4];simp[bg]
             ·left;rw[bg];exact Pg
             ·rcases O_ b' bg with bg|bg
              ·exact .inr bg
              ·left;rw[f4,rv];simp[bg]
             ·left;rw[f4];simp[bg]
            rcases Pt with bg|bg
            ·exact⟨(Da k (by simp) b' bg).1,k,by simp,by simp[ew],bg⟩
            ·obtain⟨k',cK,bg⟩:=gl4 b' bg
             exact⟨(Da k' (by simp[cK]) b' bg).1,k',by simp[cK],t2 k' cK,bg⟩
          ·cases f1
        |false=>
         rw[jR,Fw,List.isEmpty_iff] at c4
         subst c4
         simp only[walk,fM,nT] at hw
         obtain⟨_,rfl⟩:=hw
         simp only[ZB] at Ub
         have hvb:kv k=.slice (some ⟨bb,oo,none⟩) nn cc:=Eq.symm nt
         rcases nq.rows with⟨h3,_⟩|⟨g,cap,cur,vs,fl,h3,h4,h5,h6,h7,h8,h9,rv⟩
         ·rw[h3] at hi;simp at hi
         ·obtain⟨n1,n2,n3⟩:=node (hvb▸h3) h4 h5 h7 h8
          rw[WE] at Ub
          split at Ub
          ·rename_i yy Km
           cases Ub
           have Pg:g∈fp k:=by rw[rv];simp
           have uT:∀c,(F c\/c∈fl.flatten\/∃k'∈ks,c∈fp k')->c≠g:=by
            rintro c (hc|hc|⟨k',cK,hc⟩) rfl
            ·exact(Da k (by simp) c Pg).1 hc
            ·rw[rv] at o9;exact(sC.1 o9).1 hc
            ·exact Lv k' cK c hc Pg
           have Xs:=h9.kB (F':=fun c=>F c\/c∈fl.flatten\/∃k'∈ks,c∈fp k') (fun c hc=> .inl hc) (fun c hc=> .inr (.inl hc))
           have C5:=Xs.patch hi Km hle (us:=(a.eval y).cells.toList) (gl:=List.replicate ds.length []) Zu (by simp) (fun m c hc=>by
            rw[FJ];exact(t4 m c hc).fq (fun c hc=>hc.imp id .inr))
           have iv:=C5.fC (w':=w.setRow g (cur.toList.take (i*U.wd x0.τ+off)++(a.eval y).cells.toList++cur.toList.drop (i*U.wd x0.τ+off+n)).toArray)
            (F':=fun c=>F c\/c∈fl.flatten\/∃k'∈ks,c∈fp k') (fun c hc=>⟨hc,setRow_other w g c _ (uT c hc)⟩) (by rw[C5.IL];simp)
           have Ga:=eo.mU (E:=E) (setRow_heap w g cur _ _ _ h4) (by simpa using h5) h6 n2 (by rw[JC];exact n3) iv
           rw[C5.IL,JC] at Ga
           refine NZ (exec n1) (Si (fun c=>F c\/c∈fl.flatten\/∃k'∈ks,c∈fp k') kv (c_ fp k _) _ _ (h.Q_ ho k _ _ ew ks _ [g] C8 (fun bad oW=>by rw[h3,jR];exact Ga) ?_ ?_ (jA Pg _) (by simp) ?_ (abB Pg _)))
           ·intro b' bg;exact⟨.inl bg,setRow_other w g b' _ (uT b' (.inl bg))⟩
           ·rintro c (hc|hc|⟨k',cK,hc⟩)
            ·exact .inl hc
            ·exact .inr ⟨k,by simp,by simp[ew],by rw[rv];simp[hc]⟩
            ·exact .inr ⟨k',by simp[cK],t2 k' cK,hc⟩
           ·intro b' bg
            rw[mb.1 bg]
            exact⟨fun hc=>uT g hc rfl,k,by simp,by simp[ew],Pg⟩
          ·cases Ub
      ·cases hr
     ·cases hr
    ·cases hr
  ·cases hr
 ·cases hr
end AM
