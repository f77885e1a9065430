import Derived.Test.YtnndcpncmmcaaaaGreatQAmOps7
namespace AM
set_option linter.unusedVariables false
open Go
variable{U:jO}{E:Env U}{pm:Pm}
variable{F F':Nat->Prop}{kv:Key->Value}{fp:Key->List Nat}{σ:ah U}{a:Act}{w w':World}{bad:Key->Bool}
theorem Rp.oV{w w':World}{F F':Nat->Prop}{c:U.C}{v:Value}{l:List Nat}(h:Rp E w F true c v l)(hl:∀b∈l,w'.heap[b]? =w.heap[b]?):Rp E w' F' true c v l:=by
 generalize hm:true=m at h
 induction h with
 |lit m v h=>subst hm;exact .lit _ v h
 |nil m τ a c h=>subst hm;exact .nil _ τ a c h
 |shr=>cases hm
 |own τ xs b cap cur vs dH hb hc hmx hs hv hr ih=>
  refine .own τ xs b cap cur vs dH ?_ hc hmx hs hv (fun i x j c hx hj=>ih i x j c hx hj (fun b' aI=> ?_) rfl)
  ·rw[hl b (by simp)];exact hb
  ·exact hl b' (aJ _ (ln.2 ⟨_,oh.2 (eI hx hj),aI⟩))
theorem dD.oV{τ:U.Ty}{xs:List (U.T τ)}{vs:List Value}{fl:List (List Nat)}(h:dD E w F true τ xs vs fl)(Ek:∀b∈fl.flatten,w'.heap[b]? =w.heap[b]?):dD E w' F' true τ xs vs fl:=by
 refine⟨h.1,h.2.1,fun i x j c hx hj=>(h.2.2 i x j c hx hj).oV (fun b hb=>Ek b ?_)⟩
 have fx:i*U.wd τ+j<fl.length:=by rw[h.2.1];exact eI hx hj
 rw[gh,gr fx] at hb
 exact X3.2 ⟨_,N6 fx,hb⟩
theorem dD.patch{deep:Bool}{τ:U.Ty}{xs:List (U.T τ)}{vs:List Value}{fl:List (List Nat)}(h:dD E w F deep τ xs vs fl){i off:Nat}{y:U.T τ}{ds:List U.C}{us:List Value}{gl:List (List Nat)}
  (hi:i<xs.length) (hd:U.dec τ ((U.enc τ (xs.getD i (U.dt τ))).take off++ds++(U.enc τ (xs.getD i (U.dt τ))).drop (off+ds.length))=some y) (hle:off+ds.length<=U.wd τ)
  (hul:us.length=ds.length) (Dn:gl.length=ds.length) (EC:∀(n:Nat)(c:U.C),ds[n]? =some c->Rp E w F deep c (us.getD n undef) (gl.getD n [])):
  dD E w F deep τ (xs.set i y) (vs.take (i*U.wd τ+off)++us++vs.drop (i*U.wd τ+off+us.length)) (fl.take (i*U.wd τ+off)++gl++fl.drop (i*U.wd τ+off+gl.length)):=by
 obtain⟨h1,h2,h3⟩:=h
 have hN:i*U.wd τ+U.wd τ<=xs.length*U.wd τ:=by
  have:(i+1)*U.wd τ<=xs.length*U.wd τ:=u9 _ hi
  rw[ta,On] at this
  exact this
 refine⟨by simp only[kF,mO,FT,zF];omega,by simp only[kF,mO,FT,zF];omega,fun n x j c hx hj=> ?_⟩
 have u6:=U.jn τ _ y hd
 have LZ:j<U.wd τ:=by
  rw[<-U.cP τ x]
  rcases lR j (U.enc τ x).length with h|h
  ·exact h
  ·rw[lU h] at hj;cases hj
 have ae4:∀{α:Type}(l m:List α)(z:α)(k:Nat),m.length=ds.length->i*U.wd τ+off+m.length<=l.length->
   (l.take (i*U.wd τ+off)++m++l.drop (i*U.wd τ+off+m.length)).getD k z=if i*U.wd τ+off<=k/\k<i*U.wd τ+off+m.length then m.getD (k-(i*U.wd τ+off)) z else l.getD k z:=by
  intro α l m z k hm hl
  by_cases lg:k<i*U.wd τ+off
  ·rw[if_neg (by omega),lD (by simp;omega),lD (by simp;omega),gh,mP,if_pos lg,gh]
  ·by_cases eS:k<i*U.wd τ+off+m.length
   ·rw[if_pos (by omega),lD (by simp;omega),nq (by simp;omega)]
    congr 1;simp;omega
   ·rw[if_neg (by omega),nq (by simp;omega),gh,Eo,gh]
    congr 2;simp;omega
 rw[ae4 vs us undef _ hul (by omega),ae4 fl gl [] _ Dn (by omega)]
 rw[hul,Dn]
 by_cases TE:n=i
 ·subst TE
  rw[zdp (by simpa using hi)] at hx
  cases hx
  rw[u6] at hj
  have qt:=dz (d:=U.dt τ) hi
  by_cases hj1:j<off
  ·rw[if_neg (by omega),if_neg (by omega)]
   refine h3 n _ j c qt ?_
   rw[qc,u_ (by simp[U.cP];omega),mP,if_pos hj1] at hj
   exact hj
  ·by_cases hj2:j<off+ds.length
   ·rw[if_pos (by omega),if_pos (by omega)]
    have e:n*U.wd τ+j-(n*U.wd τ+off)=j-off:=by omega
    rw[e]
    refine EC (j-off) c ?_
    have HY:((U.enc τ (xs.getD n (U.dt τ))).take off).length=off:=by simp[U.cP];omega
    rw[u_ (by simp[U.cP];omega),va (by omega),HY] at hj
    exact hj
   ·rw[if_neg (by omega),if_neg (by omega)]
    refine h3 n _ j c qt ?_
    have HY:((U.enc τ (xs.getD n (U.dt τ))).take off++ds).length=off+ds.length:=by simp[U.cP];omega
    rw[va (by omega),HY,Eo] at hj
    rw[<-hj];congr 1;omega
 ·rw[zek (Ne.symm TE)] at hx
  have aeS:¬(i*U.wd τ+off<=n*U.wd τ+j/\n*U.wd τ+j<i*U.wd τ+off+ds.length):=by
   rintro⟨g1,g2⟩
   rcases lR n i with fx|TU
   ·have:(n+1)*U.wd τ<=i*U.wd τ:=u9 _ fx
    rw[ta,On] at this
    omega
   ·have:(i+1)*U.wd τ<=n*U.wd τ:=u9 _ (by omega)
    rw[ta,On] at this
    omega
  rw[if_neg aeS,if_neg aeS]
  exact h3 n x j c hx hj
theorem adl(N n:Nat)(h:n<N):List.range N=List.range n++n::(List.range (N-n-1)).map (·+(n+1)):=by
 have h1:N=n+((N-n-1)+1):=by omega
 conv=>lhs;rw[h1,List.range_add]
 congr 1
 rw[List.range_succ_eq_map,rl,List.map_map]
 simp only[Aj,zdd,true_and]
 refine Lp fun a _=> ?_
 simp only[Function.comp]
 omega
theorem cF.focus:∀{p:Path}{x b x':fK U}{v:Value}{l:List Nat}{ps:List Prop}{f:fK U->Option (fK U)},cF E w F true x v l->l.Nodup->walk p x=some (ps,b)->(∀q∈ps,q)->chg p x f=some x'->
  ∃vb lb pre post b',f b=some b'/\mg w (fun c=>F c\/c∈l) v p vb/\cF E w F true b vb lb/\l=pre++lb++post/\
   ∀(w':World)(F':Nat->Prop)(N9:List Nat),b'.τ=b.τ->cF E w' F' true b' vb N9->(∀c∈pre++post,w'.heap[c]? =w.heap[c]?)->cF E w' F' true x' v (pre++N9++post):=by
 intro p
 induction p with
 |nil=>
  intro x b x' v l ps f h hn hw hp hc
  simp only[walk,eZ,kG] at hw
  obtain⟨_,rfl⟩:=hw
  exact⟨v,l,[],[],x',hc,rfl,h,by simp,fun w' F' N9 _ hb _=>by simpa using hb⟩
 |cons s p ih=>
  obtain⟨i,wd,j⟩:=s
  intro x b x' v l ps f h hn hw hp hc
  obtain⟨τ,xs⟩:=x
  simp only[walk] at hw
  cases mH:Nat.beq wd (U.wd τ)<;>simp only[mH,cond_false,cond_true] at hw
  ·cases hw
  ·have KF:wd=U.wd τ:=jp mH
   subst KF
   split at hw
   ·rename_i τ1 ys hx
    split at hw
    ·rename_i HV b0 hw'
     simp only[eZ,kG] at hw
     obtain⟨rfl,rfl⟩:=hw
     have hi:i<xs.length:=hp _ (by simp)
     have qt:=dz (d:=U.dt τ) hi
     simp only[chg,hx] at hc
     split at hc
     ·rename_i b1 js
      split at hc
      ·rename_i x1 hx1
       rw[adC hx1] at hc
       cases hc
       rcases h with⟨h0,_⟩|⟨g,cap,cur,vs,dH,h1,h2,h3,h4,h5,h6,h7,h8⟩
       ·simp only at h0;subst h0;simp at hi
       ·simp only at h1 h2 h3 h5 h6 h7 h8
        have fx:=eI qt hx
        have lB:=(h7 i _ j _ qt hx).ud
        have RB:l=(g::(List.range (i*U.wd τ+j)).flatMap dH)++dH (i*U.wd τ+j)++((List.range (xs.length*U.wd τ-(i*U.wd τ+j)-1)).map (·+(i*U.wd τ+j+1))).flatMap dH:=by
         rw[h8,adl _ _ fx,N3,tV]
         simp[qc]
        have hnn:(dH (i*U.wd τ+j)).Nodup:=by
         rw[RB] at hn
         exact(nH.1 (nH.1 hn).1).2.1
        obtain⟨vb,lb,pre,post,b',f1,f2,f3,f4,f5⟩:=ih (x:=⟨τ1,ys⟩) lB hnn hw' (fun q hq=>hp q (by simp[hq])) js
        have hgc:w.cell? ⟨g,0+(i*U.wd τ+j),none⟩=some (vs (i*U.wd τ+j)):=by
         rw[oz,cell_of_row w g _ cur _ (0,0) h2];exact h6 _ fx
        refine⟨vb,lb,(g::(List.range (i*U.wd τ+j)).flatMap dH)++pre,post++((List.range (xs.length*U.wd τ-(i*U.wd τ+j)-1)).map (·+(i*U.wd τ+j+1))).flatMap dH,b',f1,?_,f3,?_,?_⟩
        ·refine⟨g,0,_,_,vs (i*U.wd τ+j),h1,.inr (by rw[RB];simp),⟨(h7 i _ j _ qt hx).za,hgc⟩,f2.cI (fun c hc=>⟨?_,.of rfl⟩)⟩
         rcases hc with hc|hc
         ·exact .inl hc
         ·exact .inr (by rw[RB];simp[hc])
        ·rw[RB,f4];simp[qc]
        ·intro w' F' N9 IH aI eW
         have pE:=f5 w' F' N9 IH aI (fun c hc=>eW c (by
          rcases gA.1 hc with hc|hc<;>simp[hc]))
         have u6:=U.jn τ _ x1 hx1
         refine .inr ⟨g,cap,cur,vs,fun n=>if n=i*U.wd τ+j then pre++N9++post else dH n,by simpa using h1,?_,by simpa using h3,h4,h5,by simpa using h6,fun n y m c hy hm=> ?_,?_⟩
         ·rw[eW g (by simp)];exact h2
         ·simp only at hy
          by_cases ol:n=i/\m=j
          ·obtain⟨rfl,rfl⟩:=ol
           rw[zdp (by simpa using hi)] at hy
           cases hy
           rw[u6] at hm
           have hmj:m<(U.enc τ (xs.getD n (U.dt τ))).length:=by
            rcases lR m (U.enc τ (xs.getD n (U.dt τ))).length with h|h
            ·exact h
            ·rw[lU h] at hx;cases hx
           rw[zdp hmj] at hm
           cases hm
           simp only[if_true]
           exact pE.MK
          ·have hold:∃z,xs[n]? =some z/\(U.enc τ z)[m]? =some c:=by
            by_cases TE:n=i
            ·subst TE
             rw[zdp (by simpa using hi)] at hy
             cases hy
             rw[u6,zek (fun e=>ol ⟨rfl,e.symm⟩)] at hm
             exact⟨_,qt,hm⟩
            ·rw[zek (Ne.symm TE)] at hy
             exact⟨y,hy,hm⟩
           obtain⟨z,hz,sY⟩:=hold
           have hmw:m<U.wd τ:=by
            rw[<-U.cP τ z]
            rcases lR m (U.enc τ z).length with h|h
            ·exact h
            ·rw[lU h] at sY;cases sY
           have LZ:j<U.wd τ:=by
            rw[<-U.cP τ (xs.getD i (U.dt τ))]
            rcases lR j (U.enc τ (xs.getD i (U.dt τ))).length with h|h
            ·exact h
            ·rw[lU h] at hx;cases hx
           have cO:n*U.wd τ+m≠i*U.wd τ+j:=by
            intro e
            have h1:(n*U.wd τ+m)/U.wd τ=n:=by rw[RR,Nat.mul_add_div (U.ka τ),zez hmw,Aj]
            have h2:(i*U.wd τ+j)/U.wd τ=i:=by rw[RR,Nat.mul_add_div (U.ka τ),zez LZ,Aj]
            have:n=i:=by rw[<-h1,e,h2]
            exact ol ⟨this,by subst this;omega⟩
           show Rp E w' F' true c (vs (n*U.wd τ+m)) (if n*U.wd τ+m=i*U.wd τ+j then pre++N9++post else dH (n*U.wd τ+m))
           rw[if_neg cO]
           have as5:=eI hz sY
           refine(h7 n z m c hz sY).oV (fun c' jr=>eW c' ?_)
           rcases Nat.lt_or_gt_of_ne cO with Db|hgt
           ·simp only[gA,h_,ln,oh]
            exact .inl (.inl (.inr ⟨_,Db,jr⟩))
           ·simp only[gA,ln,jX,oh]
            refine .inr (.inr ⟨n*U.wd τ+m,⟨n*U.wd τ+m-(i*U.wd τ+j+1),by omega,by omega⟩,jr⟩)
         ·simp only[zF]
          rw[adl _ _ fx,N3,tV,if_pos rfl]
          have e1:(List.range (i*U.wd τ+j)).flatMap (fun n=>if n=i*U.wd τ+j then pre++N9++post else dH n)=(List.range (i*U.wd τ+j)).flatMap dH:=by
           rw[J',J']
           congr 1
           refine Lp fun n hn=> ?_
           rw[if_neg (by have:=oh.1 hn;omega)]
          have e2:((List.range (xs.length*U.wd τ-(i*U.wd τ+j)-1)).map (·+(i*U.wd τ+j+1))).flatMap (fun n=>if n=i*U.wd τ+j then pre++N9++post else dH n)=((List.range (xs.length*U.wd τ-(i*U.wd τ+j)-1)).map (·+(i*U.wd τ+j+1))).flatMap dH:=by
           rw[J',J']
           congr 1
           refine Lp fun n hn=> ?_
           obtain⟨m,_,rfl⟩:=jX.1 hn
           rw[if_neg (by omega)]
          rw[e1,e2]
          simp[qc]
      ·cases hc
     ·cases hc
    ·cases hw
   ·cases hw
theorem cd.RT(h:cd E pm F kv fp σ a w){o:Oper}(ho:o.dst=none)(k:Key)(e0 e:eX U)(iX:σ.aU k=some e0)(ks:List Key)(ps:List Prop)(y7:List Nat)(wT:k∉ks)
  (hE:∀bad,(∀k',mz w w' kv kv fp (bx fp k y7) (aZ σ) bad k')->lm E w' F' kv (bx fp k y7) bad e (kv k) y7)
  (mF:∀b,F b->F' b/\w'.heap[b]? =w.heap[b]?)
  (Du:∀b,F' b->F b\/∃k'∈k::ks,(σ.aU k').isSome=true/\b∈fp k')
  (fQ:∀k' e,k'≠k->k'∉ks->σ.aU k'=some e->∀b∈fp k',w'.heap[b]? =w.heap[b]?)
  (oB:y7.Nodup) (Oe:∀b∈y7,¬F' b/\∃k'∈k::ks,(σ.aU k').isSome=true/\b∈fp k')
  (kx:fm (fun b=>pm.W b\/pm.w0.heap.size<=b) w w') (sf:List Key:=[]) (hsf:∀k'∈sf,k'=k/\y7=fp k/\∀b∈fp k,Ah w w' b:=by simp) (pT:e.wk=false:=by rfl):
  cd E pm F' kv (bx fp k y7) (AM.apply o ⟨none,[],ks,[(k,e)],ps,sf⟩ σ) (a.put o.dst undef) w':=by
 have fq:ct o (⟨none,[],ks,[(k,e)],ps,sf⟩:bz U)=[]:=rfl
 have fI:fM (⟨none,[],ks,[(k,e)],ps,sf⟩:bz U)=[k]:=rfl
 have nd:∀k',mz w w' kv kv fp (bx fp k y7) (aZ σ) (aZ (AM.apply o ⟨none,[],ks,[(k,e)],ps,sf⟩ σ)) k':=by
  intro k'
  refine⟨rfl,?_⟩
  by_cases hk:k'=k
  ·by_cases Ej:k∈sf
   ·obtain⟨_,s2,s3⟩:=hsf k Ej
    cases hb:aZ σ k'
    ·subst hk;exact .inr ⟨rfl,by rw[gW];exact s2,s3⟩
    ·left
     subst hk
     simp only[aZ,Ee] at hb⊢
     rcases hb with hb|hb
     ·exact .inl (nP.2 (by simp only[AM.apply,gA];exact .inr (nP.1 hb)))
     ·rw[iX] at hb;cases hb
   ·left
    subst hk
    have:(AM.apply o (⟨none,[],ks,[(k',e)],ps,sf⟩:bz U) σ).ay.any (fU k')=true:=nP.2 (by
     simp only[AM.apply,bz.IZ,gA,CD]
     exact .inl ⟨by simp,by rw[sS,<-Al,nP];exact Ej⟩)
    simp[aZ,this]
  ·by_cases aaU:k'∈ks
   ·left
    simp[aZ,MZ o _ σ k' (by rw[fq];simp) (by rw[fI];simpa using hk) aaU]
   ·have Qf:=Km o (⟨none,[],ks,[(k,e)],ps,sf⟩:bz U) σ k' (by rw[fq];simp) (by rw[fI];simpa using hk) aaU
    have KY:(AM.apply o (⟨none,[],ks,[(k,e)],ps,sf⟩:bz U) σ).ay.any (fU k')=σ.ay.any (fU k'):=by
     rw[HT,nP,nP]
     simp only[AM.apply,bz.IZ,gA,CD,rl,List.map_nil,g_]
     exact⟨fun e=>e.resolve_left (fun e=>hk e.1),.inr⟩
    cases hb:aZ σ k'
    ·right
     refine⟨rfl,kf hk,?_⟩
     simp only[aZ,Ox] at hb
     obtain⟨e',dr⟩:∃e,σ.aU k'=some e:=by
      cases hx:σ.aU k' with
      |none=>rw[hx] at hb;simp at hb
      |some e=>exact⟨e,rfl⟩
     exact fun b hb=> .of (fQ k' e' hk aaU dr b hb)
    ·left
     simp only[aZ] at hb⊢
     rw[Qf,KY];exact hb
 have pE:∀b,(∃k'∈k::ks,(σ.aU k').isSome=true/\b∈fp k')->(pm.W b\/pm.w0.heap.size<=b)/\b<w.heap.size:=by
  rintro b ⟨k',_,hl,hb⟩
  obtain⟨e',dr⟩:=kH.1 hl
  exact(h.cU k' e' b dr hb).2
 refine h.apply o _ undef (fun x hx=>by rw[ho] at hx;cases hx) ?_ (fun _ _=>rfl) ?_ ?_ mF ?_ ?_ ?_ ?_ ?_ ?_ (h.upto.trans kx) kx.size (fun k' bp=>by
  obtain⟨rfl,s2,s3⟩:=hsf k' bp
  exact⟨by simp[iX],by rw[gW];exact s2,s3⟩) (fun k' e' hk=>by
  rcases hk with⟨j,_,hk⟩|hk
  ·simp at hk
  ·rw[(Prod.mk.inj (g_.1 hk)).2];exact pT)
 ·intro x hx;cases hx
 ·intro k' _ hk;rw[fI] at hk;exact kf (by simpa using hk)
 ·intro k' hk;rw[fq] at hk;simp at hk
 ·intro k' e' _ hk eS he b hb;rw[fI] at hk;exact fQ k' e' (by simpa using hk) eS he b hb
 ·rintro k' e' (⟨j,_,hj⟩|hk)
  ·simp at hj
  ·simp only[g_,kG] at hk
   obtain⟨rfl,rfl⟩:=hk
   rw[gW]
   refine⟨hE _ nd,oB,fun b hb=> ?_⟩
   obtain⟨h1,h2⟩:=Oe b hb
   have h3:=pE b h2
   have:=kx.size
   exact⟨h1,h3.1,by omega⟩
 ·intro k' e' b _ hk eS he hb vO
  rw[fI] at hk
  rcases Du b vO with h1|⟨k2,Dm,hl,aI⟩
  ·exact(h.cU k' e' b he hb).1 h1
  ·obtain⟨e2,nX⟩:=kH.1 hl
   exact h.apart k' k2 e' e2 b (fun e=>by subst e;rcases h_.1 Dm with rfl|h;exact hk (by simp);exact eS h) he nX hb aI
 ·intro k1 k' b cO hk bp hb
  rw[fq,fI] at hk bp
  simp only[g_,rh,false_or] at hk bp
  subst hk
  rw[gW] at hb
  rcases bp with rfl|⟨bp,zh⟩
  ·exact absurd rfl cO
  ·rw[kf (Ne.symm cO)]
   obtain⟨e',dr⟩:=kH.1 zh
   intro aI
   obtain⟨k2,eS,hl,gX⟩:=(Oe b hb).2
   obtain⟨e2,nX⟩:=kH.1 hl
   exact h.apart k2 k' e2 e' b (fun e=>by subst e;rcases h_.1 eS with rfl|h;exact cO rfl;exact bp h) nX dr gX aI
 ·intro b hb
  rcases Du b hb with h1|h1
  ·have:=h.lT b h1;have:=kx.size;omega
  ·have:=(pE b h1).2;have:=kx.size;omega
 ·intro b hb
  rcases Du b hb with h1|h1
  ·exact h.ny b h1
  ·exact .inr (pE b h1).1
theorem OP{P:Program}{t:TypeId}{n g off:Nat}{cur:Array Value}{e:TypeId}{v:Value}(hs:(P.info? t).map (·.size)=some n)(hv:v.cells.size=n)(h1:∀u∈v.cells.toList,u.oneCell'=true)
  (hg:w.heap[g]? =some (.cells cur e (0,0))) (hle:off+n<=cur.size):
  (Instr.storeAt t (.pointer (some ⟨g,off,none⟩)) v).run P w=.ok () (w.setRow g (cur.toList.take off++v.cells.toList++cur.toList.drop (off+n)).toArray):=by
 cases hq:P.info? t with
 |none=>rw[hq] at hs;cases hs
 |some i=>
  rw[hq] at hs
  simp only[Ef,eZ] at hs
  have nd:=run_storeCells_at P g off e v.cells.toList 0 cur w hg (by simp;omega) h1
  simp only[Aj,yM] at nd
  simp[Instr.storeAt,Instr.sureAddr,storeVar,Go.sizeOf,typeInfo,hq,nd,hv]
  omega
theorem kS.dQ{xs:List (AC U)}{vs:List Value}(h:kS E w F kv fp bad xs vs):∀v∈vs,v.oneCell'=true:=by
 intro v hv
 obtain⟨n,hn,rfl⟩:=zG hv
 exact(h.2 n (xs[n]'(by rw[h.1];exact hn)) _ (gr _) (gr hn)).1.1
theorem adq:∀{cs:List U.C},mX cs=true->∀(j:Nat)(c:U.C),cs[j]? =some c->∃v,c=.lit v/\¬za v
 |[],_,j,c,h=>by simp at h
 | .sl _ _::_,hp,_,_,_=>by simp[mX] at hp
 | .lit v::r,hp,0,c,h=>by
  simp only[sT,eZ] at h
  refine⟨v,h.symm,fun⟨_,_,_,e⟩=> ?_⟩
  subst e
  simp[mX] at hp
 | .lit v::r,hp,j+1,c,h=>by
  refine adq (cs:=r) ?_ j c (by simpa using h)
  revert hp
  cases v<;>simp[mX]
theorem amn{τ:U.Ty}{xs:List (U.T τ)}{vs:List Value}{fl gl:List (List Nat)}{i off n:Nat}(h:dD E w F true τ xs vs fl)(hi:i<xs.length)(hle:off+n<=U.wd τ)(hp:mX (((U.enc τ (xs.getD i (U.dt τ))).drop off).take n)=true)
  (hg:gl.flatten=[]) (Dn:gl.length=n):
  (fl.take (i*U.wd τ+off)++gl++fl.drop (i*U.wd τ+off+gl.length)).flatten=fl.flatten/\∀j,j<n->∃u,vs[i*U.wd τ+off+j]? =some u/\¬za u:=by
 have qt:=dz (d:=U.dt τ) hi
 have hc:∀j,j<n->∃v,(U.enc τ (xs.getD i (U.dt τ)))[off+j]? =some (.lit v)/\¬za v:=fun j hj=>by
  have h1:off+j<(U.enc τ (xs.getD i (U.dt τ))).length:=by rw[U.cP];omega
  obtain⟨v,e1,e2⟩:=adq hp j _ (by rw[mP,if_pos hj,Eo];exact gr h1)
  exact⟨v,by rw[<-e1];exact gr h1,e2⟩
 have lB:∀j,j<n->∃v,i*U.wd τ+off+j<xs.length*U.wd τ/\vs.getD (i*U.wd τ+off+j) undef=v/\fl.getD (i*U.wd τ+off+j) []=[]/\¬za v:=fun j hj=>by
  obtain⟨v,e1,e2⟩:=hc j hj
  have fx:=eI qt e1
  have hr:=h.2.2 i _ (off+j) _ qt e1
  rw[show i*U.wd τ+(off+j)=i*U.wd τ+off+j by omega] at hr fx
  generalize hu:vs.getD (i*U.wd τ+off+j) undef=u at hr
  generalize hl:fl.getD (i*U.wd τ+off+j) []=l at hr
  generalize f_:(Cell.lit v:U.C)=c at hr
  cases hr with
  |lit m v' Eh=>cases f_;exact⟨v,fx,rfl,rfl,e2⟩
  |nil=>cases f_
  |own=>cases f_
 refine⟨?_,fun j hj=> ?_⟩
 ·have h1:fl.flatten=(fl.take (i*U.wd τ+off)).flatten++(((fl.drop (i*U.wd τ+off)).take n).flatten++(fl.drop (i*U.wd τ+off+n)).flatten):=by
   rw[<-Ak,<-List.drop_drop (i:=n) (j:=i*U.wd τ+off),HS,<-Ak,HS]
  have h2:((fl.drop (i*U.wd τ+off)).take n).flatten=[]:=by
   rw[List.flatten_eq_nil_iff]
   intro l hl
   obtain⟨m,hm,rfl⟩:=zG hl
   simp only[mO,FT] at hm
   obtain⟨_,_,_,h3,_⟩:=lB m (by omega)
   rw[List.getElem_take,List.getElem_drop]
   rw[gh,gr (by omega)] at h3
   simpa using h3
  rw[Ak,Ak,hg,Dn,sI,h1,h2,List.nil_append]
 ·obtain⟨v,h1,h2,_,h4⟩:=lB j hj
  refine⟨v,?_,h4⟩
  rw[<-h2]
  exact dz (by rw[h.1];exact h1)
theorem amg(h:cd E pm F kv fp σ a w){o:Oper}(ho:o.dst=none){t:TypeId}{x y:Operand}(mI:o.op=.store t x y){sx:SV U}{yx:AC U}{z:AV U}{n:Nat}{rs:List Key}{r:bz U}
  (hx:RS E w F kv fp (aZ σ) sx (a.eval x)) (vN:sd sx=some yx) (hy:RS E w F kv fp (aZ σ) (.v z) (a.eval y)) (hs:E.size t=some n) (hn:n=z.cs.length)
  (hr:storeAt (restrict σ.aU rs) σ.ay z yx=some r) (hp:∀p∈r.pre,p) {next:Act->World->Prop} {Q:Exit->Act->World->Prop}
  (J4:∀F kv fp a' w',cd E pm F kv fp (AM.apply o r σ) a' w'->next a' w'):o.wp E.P a w next Q:=by
 have AB:=bD hx vN
 obtain⟨cr,sW⟩:=Ko hy
 have exec:∀{w1},(Instr.storeAt t (a.eval x) (a.eval y)).run E.P w=.ok () w1->(execOp a.eval o).run E.P w=.ok .skip w1:=by
  intro w1 hr
  unfold execOp;simp only[mI]
  rw[Sem.run_bind,hr];rfl
 unfold storeAt at hr
 split at hr
 ·rename_i k off
  split at hr
  ·rename_i cs he
   have dr:=fA he
   cases hb:Nat.ble (off+z.cs.length) cs.length<;>simp only[hb,cond_false,cond_true] at hr
   ·cases hr
   ·have hle:=H6 hb
    cases hr
    obtain⟨b,h1,h2⟩:=bG AB rfl
    obtain⟨b',cur,e,h3,h4,h5,h6⟩:=h.cT k _ dr
    rw[h1] at h3;cases h3
    have fa:cs.length=cur.size:=by simpa using h6.1
    have fw:=OP (P:=E.P) (n:=n) (off:=off) (v:=a.eval y) hs (by rw[sW];exact hn.symm) cr.dQ h4 (by omega)
    rw[<-h2] at fw
    refine MP (exec fw) (J4 F kv (bx fp k [b]) _ _ (h.RT ho k _ _ dr [] [] [b] (by simp) ?_ ?_ ?_ ?_ ?_ ?_ ?_))
    ·intro bad nd
     refine⟨b,_,e,h1,setRow_heap w b cur _ _ _ h4,rfl,?_⟩
     have vO:∀b',F b'->F b'/\(w.setRow b (cur.toList.take off++(a.eval y).cells.toList++cur.toList.drop (off+n)).toArray).heap[b']? =w.heap[b']? :=fun b' aI=>
      ⟨aI,setRow_other w b b' _ (fun e=>(h.cU k _ b dr (by rw[h5];simp)).1 (e▸aI))⟩
     have:=(((h6.take off).append cr).append (h6.drop (off+n))).move (bad':=bad) (kv':=kv) (fp':=bx fp k [b]) (fun _ _ k' _=>nd k') vO
     rw[hn] at this⊢
     simpa using this
    ·intro b' aI;exact⟨aI,setRow_other w b b' _ (fun e=>(h.cU k _ b dr (by rw[h5];simp)).1 (e▸aI))⟩
    ·intro b' aI;exact .inl aI
    ·intro k' e' hk _ nX b' aI
     exact setRow_other w b b' _ (fun e=>h.apart k' k _ _ b' hk nX dr aI (by rw[h5,e];simp))
    ·simp
    ·intro b' aI
     rw[g_.1 aI]
     exact⟨(h.cU k _ b dr (by rw[h5];simp)).1,k,by simp,by simp[dr],by rw[h5];simp⟩
    ·exact⟨rfl,rfl,rfl,by simp,fun b' _ Ez=>setRow_other w b b' _ (fun e=>Ez (by rw[e];exact(h.cU k _ b dr (by rw[h5];simp)).2.1)),og _⟩
  ·cases hr
 ·rename_i k p i wd off
  split at hr
  ·rename_i x0 d he
   have dr:=fA he
   cases fa:eg (restrict σ.aU rs) σ.ay k p<;>simp only[fa,cond_false,cond_true] at hr
   ·cases hr
   ·split at hr
    ·rename_i ps b hw
     split at hr
     ·rename_i qs ds ks d' vj
      split at hr
      ·rename_i x' V7
       cases mU:(Nat.beq wd (U.wd b.τ)&&Nat.ble (off+ds.length) (U.wd b.τ)&&distinct (k::ks)&&((d&&d')||p.isEmpty))<;>simp only[mU,cond_false,cond_true] at hr
       ·cases hr
       ·cases hr
        have aaA:∀k'∈(bif ks.isEmpty&&d&&d'&&mX (((U.enc b.τ (b.xs.getD i (U.dt b.τ))).drop off).take ds.length) then[k] else([]:List Key)),k'=k/\ks=[]/\d=true/\d'=true/\mX (((U.enc b.τ (b.xs.getD i (U.dt b.τ))).drop off).take ds.length)=true:=by
         intro k' bp
         cases f_:(ks.isEmpty&&d&&d'&&mX (((U.enc b.τ (b.xs.getD i (U.dt b.τ))).drop off).take ds.length))<;>rw[f_] at bp
         ·simp at bp
         ·simp only[fY,List.isEmpty_iff] at f_
          exact⟨by simpa using bp,f_.1.1.1,f_.1.1.2,f_.1.2,f_.2⟩
        generalize (bif ks.isEmpty&&d&&d'&&mX (((U.enc b.τ (b.xs.getD i (U.dt b.τ))).drop off).take ds.length) then[k] else([]:List Key))=sf at aaA J4 hp
        simp only[fY] at mU
        obtain⟨⟨⟨c1,c2⟩,c3⟩,c4⟩:=mU
        have mH:=jp c1
        subst mH
        have hle:=H6 c2
        have tG:=sV.1 c3
        have wT:k∉ks:=(pH.1 tG).1
        have hi:i<b.xs.length:=hp _ (by simp)
        have KK:∀q∈ps,q:=fun q hq=>hp q (by simp[hq])
        obtain⟨t1,t2,t3,t4⟩:=Kj h vj (fun q hq=>hp q (by simp[hq])) cr (pH.1 tG).2
        obtain⟨bb,oo,nn,cc,iz,hv⟩:=bG AB (y4 fa he)
        have kz:cF E w F d x0 (kv k) (fp k):=h.cT k _ dr
        have oB:=h.nodup k _ dr
        have V5:ds.length=n:=by rw[t1,hn]
        have hcz:(a.eval y).cells.toList.length=ds.length:=by simp[sW,t1]
        have node:∀{g cap:Nat}{cur:Array Value}{vs:List Value},(.slice (some ⟨bb,oo,none⟩) nn cc:Value)=.slice (some ⟨g,0,none⟩) b.xs.length cap->w.heap[g]? =some (.cells cur (E.tid b.τ) (0,0))->b.xs.length<=cap->
          cur.size=cap*U.wd b.τ->cur.toList.take (b.xs.length*U.wd b.τ)=vs->
          (Instr.storeAt t (a.eval x) (a.eval y)).run E.P w=.ok () (w.setRow g (cur.toList.take (i*U.wd b.τ+off)++(a.eval y).cells.toList++cur.toList.drop (i*U.wd b.τ+off+n)).toArray)/\
          (cur.toList.take (i*U.wd b.τ+off)++(a.eval y).cells.toList++cur.toList.drop (i*U.wd b.τ+off+n)).toArray.size=cap*U.wd b.τ/\
          (cur.toList.take (i*U.wd b.τ+off)++(a.eval y).cells.toList++cur.toList.drop (i*U.wd b.τ+off+n)).toArray.toList.take (b.xs.length*U.wd b.τ)=
           vs.take (i*U.wd b.τ+off)++(a.eval y).cells.toList++vs.drop (i*U.wd b.τ+off+(a.eval y).cells.toList.length):=by
         intro g cap cur vs e1 e2 e3 e4 e5
         simp only[Value.slice.injEq,eZ,Addr.mk.injEq,and_true] at e1
         obtain⟨⟨rfl,rfl⟩,_,_⟩:=e1
         have hN:i*U.wd b.τ+U.wd b.τ<=b.xs.length*U.wd b.τ:=by
          have:(i+1)*U.wd b.τ<=b.xs.length*U.wd b.τ:=u9 _ hi
          rw[ta,On] at this
          exact this
         have zj:b.xs.length*U.wd b.τ<=cap*U.wd b.τ:=u9 _ e3
         have fw:=OP (P:=E.P) (n:=n) (off:=i*U.wd b.τ+off) (v:=a.eval y) hs (by rw[sW];exact hn.symm) cr.dQ e2 (by omega)
         refine⟨by rw[hv,oz];exact fw,by simp only[Rt,kF,mO,FT,yM,sW,<-hn];omega,?_⟩
         subst e5
         refine Ow fun m=> ?_
         rw[mP]
         by_cases hm:m<b.xs.length*U.wd b.τ
         ·rw[if_pos hm]
          by_cases h1:m<i*U.wd b.τ+off
          ·rw[qc,u_ (by simp;omega),qc,u_ (by simp;omega),mP,if_pos h1,mP,if_pos h1,mP,if_pos hm]
          ·by_cases h2:m<i*U.wd b.τ+off+n
           ·rw[u_ (by simp[sW,<-hn];omega),va (by simp;omega),u_ (by simp[sW,<-hn];omega),va (by simp;omega)]
            congr 1;simp;omega
           ·rw[va (by simp[sW,<-hn];omega),va (by simp[sW,<-hn];omega),Eo,Eo,mP,if_pos (by simp[sW,<-hn];omega)]
            congr 1;simp[sW,<-hn];omega
         ·rw[if_neg hm,lU]
          simp only[kF,mO,FT,yM,sW,<-hn]
          omega
        have Ej:∀b'∈k::ks,(σ.aU b').isSome=true:=fun k' bp=>by
         rcases h_.1 bp with rfl|bp
         ·simp[dr]
         ·exact t2 k' bp
        have Ds:∀k'∈k::ks,∀b'∈fp k',¬F b'/\(pm.W b'\/pm.w0.heap.size<=b'):=fun k' bp b' aI=>by
         obtain⟨e,he⟩:=kH.1 (Ej k' bp)
         exact⟨(h.cU k' e b' he aI).1,(h.cU k' e b' he aI).2.1⟩
        have L7:∀k'∈ks,∀b'∈fp k',b'∉fp k:=fun k' bp b' aI iY=>by
         obtain⟨e,he⟩:=kH.1 (t2 k' bp)
         exact h.apart k' k _ _ b' (fun e=>wT (e▸bp)) he dr aI iY
        have gj:∀{g:Nat},g∈fp k->∀(cells:Array Value) k' e,k'≠k->k'∉ks->σ.aU k'=some e->∀b'∈fp k',(w.setRow g cells).heap[b']? =w.heap[b']? :=fun hg cells k' e' hk _ nX b' aI=>
         setRow_other w _ b' _ (fun e=>h.apart k' k _ _ b' hk nX dr aI (e▸hg))
        have aes:∀{g:Nat},g∈fp k->∀(cells:Array Value),fm (fun b=>pm.W b\/pm.w0.heap.size<=b) w (w.setRow g cells):=fun hg cells=>
         ⟨rfl,rfl,rfl,by simp,fun b' _ Ez=>setRow_other w _ b' _ (fun e=>Ez (e▸(Ds k (by simp) _ hg).2)),og _⟩
        cases jh:(d&&d') with
        |true=>
         simp only[fY] at jh
         obtain⟨rfl,rfl⟩:=jh
         obtain⟨gl,gl1,gl2,gl3,gl4⟩:=t3 rfl
         obtain⟨vb,lb,pre,post,b',f1,f2,f3,f4,f5⟩:=kz.focus oB hw KK V7
         have hvb:vb=.slice (some ⟨bb,oo,none⟩) nn cc:=f2.unique iz
         rcases f3.rows with⟨h3,_⟩|⟨g,cap,cur,vs,fl,h3,h4,h5,h6,h7,h8,h9,rk⟩
         ·rw[h3] at hi;simp at hi
         ·obtain⟨n1,n2,n3⟩:=node (hvb▸h3) h4 h5 h7 h8
          rw[ZI] at f1
          split at f1
          ·rename_i yy vM
           cases f1
           have C_:=h9.patch hi vM hle hcz gl1 gl2
           have P':g∈fp k:=by rw[f4,rk];simp
           have apn:(g::fl.flatten).Nodup:=by
            rw[f4,rk] at oB
            exact(nH.1 (nH.1 oB).1).2.1
           have aeO:∀b'∈gl.flatten,b'∉fp k:=fun b' aI=>by
            obtain⟨k',bp,aI⟩:=gl4 b' aI
            exact L7 k' bp b' aI
           have nT:((fl.take (i*U.wd b.τ+off)).flatten++(fl.drop (i*U.wd b.τ+off+gl.length)).flatten).Sublist fl.flatten:=by
            have h1:fl.flatten=(fl.take (i*U.wd b.τ+off)).flatten++(fl.drop (i*U.wd b.τ+off)).flatten:=by rw[<-Ak,HS]
            have h2:(fl.drop (i*U.wd b.τ+off)).flatten=((fl.drop (i*U.wd b.τ+off)).take gl.length).flatten++((fl.drop (i*U.wd b.τ+off)).drop gl.length).flatten:=by rw[<-Ak,HS]
            rw[h1,h2,List.drop_drop]
            exact List.Sublist.append_left (zem _ _) _
           have V3:(fl.take (i*U.wd b.τ+off)++gl++fl.drop (i*U.wd b.τ+off+gl.length)).flatten=(fl.take (i*U.wd b.τ+off)).flatten++gl.flatten++(fl.drop (i*U.wd b.τ+off+gl.length)).flatten:=by
            simp[Ak]
           have PS:∀c∈(fl.take (i*U.wd b.τ+off)++gl++fl.drop (i*U.wd b.τ+off+gl.length)).flatten,c∈gl.flatten\/c∈fl.flatten:=by
            intro c hc
            rw[V3,gA,gA] at hc
            rcases hc with(hc|hc)|hc
            ·exact .inr (nT.subset (by simp[hc]))
            ·exact .inl hc
            ·exact .inr (nT.subset (pA _ hc))
           have apy:∀c∈(fl.take (i*U.wd b.τ+off)++gl++fl.drop (i*U.wd b.τ+off+gl.length)).flatten,c≠g:=by
            intro c hc e
            rcases PS c hc with hc|hc
            ·exact aeO c hc (e▸P')
            ·exact(pH.1 apn).1 (e▸hc)
           have Da:=cF.jm (E:=E) (w:=w.setRow g (cur.toList.take (i*U.wd b.τ+off)++(a.eval y).cells.toList++cur.toList.drop (i*U.wd b.τ+off+n)).toArray) (F:=F) (setRow_heap w g cur _ _ _ h4) (by simpa using h5) h6 n2
            (by rw[zF];exact n3) (C_.oV (fun c hc=>setRow_other w g c _ (apy c hc)))
           rw[zF] at Da
           have hpp:∀c∈pre++post,c≠g:=by
            intro c hc e
            subst e
            rw[f4,rk] at oB
            have aeC:=nH.1 oB
            have apk:=nH.1 aeC.1
            rcases gA.1 hc with hc|hc
            ·exact apk.2.2 c hc c (by simp) rfl
            ·exact aeC.2.2 c (by simp) c hc rfl
           have wU:=f5 (w.setRow g (cur.toList.take (i*U.wd b.τ+off)++(a.eval y).cells.toList++cur.toList.drop (i*U.wd b.τ+off+n)).toArray) F _ rfl (by rw[h3];exact Da) (fun c hc=>setRow_other w g c _ (hpp c hc))
           refine MP (exec n1) (J4 F kv (bx fp k _) _ _ (h.RT ho k _ (.arr x' true) dr ks _ _ wT (fun bad nd=>wU) ?_ (fun b' aI=> .inl aI) (gj P' _) ?_ ?_ (aes P' _) sf (fun k' bp=> ?_)))
           rotate_left 3
           ·obtain⟨s1,s2,_,_,s5⟩:=aaA k' bp
            subst s2
            have apz:gl.flatten=[]:=zdm.2 fun c hc=>by
             obtain⟨k2,eS,_⟩:=gl4 c hc
             exact absurd eS rh
            obtain⟨q1,q2⟩:=amn h9 hi hle s5 apz gl1
            refine⟨s1,by rw[q1,f4,rk],fun c hc m u hsu TW=> ?_⟩
            by_cases hcg:c=g
            ·subst hcg
             rw[cell_of_row _ c _ _ _ (0,0) (setRow_heap w c cur _ _ _ h4)]
             rw[cell_of_row w c _ cur _ (0,0) h4] at TW
             have TI:m<cur.size:=by
              rcases lR m cur.size with hm|hm
              ·exact hm
              ·rw[Array.getElem?_eq_none hm] at TW;cases TW
             rw[<-Eg] at TW
             rw[<-Eg]
             simp only
             by_cases yJ:m<i*U.wd b.τ+off
             ·rw[qc,u_ (by simp;omega),mP,if_pos yJ];exact TW
             ·by_cases vH:m<i*U.wd b.τ+off+n
              ·exfalso
               obtain⟨u',hu1,Ry⟩:=q2 (m-(i*U.wd b.τ+off)) (by omega)
               rw[show i*U.wd b.τ+off+(m-(i*U.wd b.τ+off))=m by omega,<-h8,mP] at hu1
               split at hu1
               ·rw[TW] at hu1;cases hu1;exact Ry hsu
               ·cases hu1
              ·rw[va (by simp only[kF,mO,yM,sW,<-hn];omega),Eo]
               rw[<-TW];congr 1
               simp only[kF,mO,yM,sW,<-hn];omega
            ·exact Ah.of (setRow_other w g c _ hcg) m u hsu TW
           ·intro b' aI;exact⟨aI,setRow_other w g b' _ (fun e=>(Ds k (by simp) g P').1 (e▸aI))⟩
           ·have IX:(pre++(g::((fl.take (i*U.wd b.τ+off)).flatten++(fl.drop (i*U.wd b.τ+off+gl.length)).flatten))++post).Nodup:=by
             rw[f4,rk] at oB
             exact(List.Sublist.append_right (List.Sublist.append_left (List.Sublist.cons_cons _ nT) _) _).nodup oB
            have hG:(gl.flatten++(pre++(g::((fl.take (i*U.wd b.τ+off)).flatten++(fl.drop (i*U.wd b.τ+off+gl.length)).flatten))++post)).Nodup:=by
             refine nH.2 ⟨gl3,IX,fun c hc c' jr e=> ?_⟩
             subst e
             refine aeO c hc ?_
             rw[f4,rk]
             simp only[gA,h_] at jr⊢
             rcases jr with(jr|jr|jr|jr)|jr
             ·exact .inl (.inl jr)
             ·exact .inl (.inr (.inl jr))
             ·exact .inl (.inr (.inr (nT.subset (by simp[jr]))))
             ·exact .inl (.inr (.inr (nT.subset (pA _ jr))))
             ·exact .inr jr
            rw[V3]
            refine(List.Perm.nodup_iff ?_).2 hG
            refine List.perm_iff_count.2 fun c=> ?_
            simp only[List.count_append,List.count_cons]
            omega
           ·intro b' aI
            simp only[gA,h_] at aI
            have Ql:b'∈fp k\/b'∈gl.flatten:=by
             rcases aI with(aI|aI|aI)|aI
             ·left;rw[f4];simp[aI]
             ·left;rw[aI];exact P'
             ·rcases PS b' aI with aI|aI
              ·exact .inr aI
              ·left;rw[f4,rk];simp[aI]
             ·left;rw[f4];simp[aI]
            rcases Ql with aI|aI
            ·exact⟨(Ds k (by simp) b' aI).1,k,by simp,by simp[dr],aI⟩
            ·obtain⟨k',bp,aI⟩:=gl4 b' aI
             exact⟨(Ds k' (by simp[bp]) b' aI).1,k',by simp[bp],t2 k' bp,aI⟩
          ·cases f1
        |false=>
         rw[jh,JY,List.isEmpty_iff] at c4
         subst c4
         simp only[walk,eZ,kG] at hw
         obtain⟨_,rfl⟩:=hw
         simp only[chg] at V7
         have hvb:kv k=.slice (some ⟨bb,oo,none⟩) nn cc:=Eq.symm iz
         rcases kz.rows with⟨h3,_⟩|⟨g,cap,cur,vs,fl,h3,h4,h5,h6,h7,h8,h9,rk⟩
         ·rw[h3] at hi;simp at hi
         ·obtain⟨n1,n2,n3⟩:=node (hvb▸h3) h4 h5 h7 h8
          rw[ZI] at V7
          split at V7
          ·rename_i yy vM
           cases V7
           have P':g∈fp k:=by rw[rk];simp
           have vO:∀c,(F c\/c∈fl.flatten\/∃k'∈ks,c∈fp k')->c≠g:=by
            rintro c (hc|hc|⟨k',bp,hc⟩) rfl
            ·exact(Ds k (by simp) c P').1 hc
            ·rw[rk] at oB;exact(pH.1 oB).1 hc
            ·exact L7 k' bp c hc P'
           have aaz:=h9.i_ (F':=fun c=>F c\/c∈fl.flatten\/∃k'∈ks,c∈fp k') (fun c hc=> .inl hc) (fun c hc=> .inr (.inl hc))
           have C_:=aaz.patch hi vM hle (us:=(a.eval y).cells.toList) (gl:=List.replicate ds.length []) hcz (by simp) (fun m c hc=>by
            rw[kA];exact(t4 m c hc).fe (fun c hc=>hc.imp id .inr))
           have eW:=C_.cI (w':=w.setRow g (cur.toList.take (i*U.wd x0.τ+off)++(a.eval y).cells.toList++cur.toList.drop (i*U.wd x0.τ+off+n)).toArray)
            (F':=fun c=>F c\/c∈fl.flatten\/∃k'∈ks,c∈fp k') (fun c hc=>⟨hc,setRow_other w g c _ (vO c hc)⟩) (by rw[C_.q_];simp)
           have Da:=cF.jm (E:=E) (setRow_heap w g cur _ _ _ h4) (by simpa using h5) h6 n2 (by rw[zF];exact n3) eW
           rw[C_.q_,zF] at Da
           refine MP (exec n1) (J4 (fun c=>F c\/c∈fl.flatten\/∃k'∈ks,c∈fp k') kv (bx fp k _) _ _ (h.RT ho k _ _ dr ks _ [g] wT (fun bad nd=>by rw[h3,jh];exact Da) ?_ ?_ (gj P' _) (by simp) ?_ (aes P' _) sf (fun k' bp=>by
            obtain⟨_,_,s3,s4,_⟩:=aaA k' bp
            rw[s3,s4] at jh;cases jh)))
           ·intro b' aI;exact⟨.inl aI,setRow_other w g b' _ (vO b' (.inl aI))⟩
           ·rintro c (hc|hc|⟨k',bp,hc⟩)
            ·exact .inl hc
            ·exact .inr ⟨k,by simp,by simp[dr],by rw[rk];simp[hc]⟩
            ·exact .inr ⟨k',by simp[bp],t2 k' bp,hc⟩
           ·intro b' aI
            rw[g_.1 aI]
            exact⟨fun hc=>vO g hc rfl,k,by simp,by simp[dr],P'⟩
          ·cases V7
      ·cases hr
     ·cases hr
    ·cases hr
  ·cases hr
 ·cases hr
end AM
