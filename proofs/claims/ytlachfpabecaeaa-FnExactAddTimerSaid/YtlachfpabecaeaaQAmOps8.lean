/- THE ABSTRACT MACHINE: stores. -/
import Derived.Test.YtlachfpabecaeaaQAmOps7
namespace AM
set_option linter.unusedVariables false
open Go
variable{U:dh}{E:Env U}{pm:Pm}
variable{F F':Nat->Prop}{kv:Key->Value}{fp:Key->List Nat}{σ:aa U}{a:Act}{w w':World}{bad:Key->Bool}
theorem Rp.gR{w w':World}{F F':Nat->Prop}{c:U.C}{v:Value}{l:List Nat}(h:Rp E w F true c v l)(hl:∀b∈l,w'.heap[b]? =w.heap[b]?):Rp E w' F' true c v l:=by
 generalize hm:true=m at h
 induction h with
 |lit m v h=>subst hm;exact .lit _ v h
 |nil m τ a c h=>subst hm;exact .nil _ τ a c h
 |shr=>cases hm
 |own τ xs b cap cur vs bT hb hc EI hs hv hr ih=>
  refine .own τ xs b cap cur vs bT ?_ hc EI hs hv (fun i x j c hx hj=>ih i x j c hx hj (fun b' aj=> ?_) rfl)
  ·rw[hl b (by simp)];exact hb
  ·exact hl b' (c9 _ (eY.2 ⟨_,hU.2 (bw hx hj),aj⟩))
theorem aR.gR{τ:U.Ty}{xs:List (U.T τ)}{vs:List Value}{fl:List (List Nat)}(h:aR E w F true τ xs vs fl)(p6:∀b∈fl.flatten,w'.heap[b]? =w.heap[b]?):aR E w' F' true τ xs vs fl:=by
 refine⟨h.1,h.2.1,fun i x j c hx hj=>(h.2.2 i x j c hx hj).gR (fun b hb=>p6 b ?_)⟩
 have bZ:i*U.wd τ+j<fl.length:=by rw[h.2.1];exact bw hx hj
 rw[cI,cE bZ] at hb
 exact yh.2 ⟨_,yi bZ,hb⟩
theorem aR.patch{deep:Bool}{τ:U.Ty}{xs:List (U.T τ)}{vs:List Value}{fl:List (List Nat)}(h:aR E w F deep τ xs vs fl){i off:Nat}{y:U.T τ}{ds:List U.C}{us:List Value}{gl:List (List Nat)}
  (hi:i<xs.length) (hd:U.dec τ ((U.enc τ (xs.getD i (U.bn τ))).take off++ds++(U.enc τ (xs.getD i (U.bn τ))).drop (off+ds.length))=some y) (hle:off+ds.length<=U.wd τ)
  (kA:us.length=ds.length) (uC:gl.length=ds.length) (oq:∀(n:Nat)(c:U.C),ds[n]? =some c->Rp E w F deep c (us.getD n undef) (gl.getD n [])):
  aR E w F deep τ (xs.set i y) (vs.take (i*U.wd τ+off)++us++vs.drop (i*U.wd τ+off+us.length)) (fl.take (i*U.wd τ+off)++gl++fl.drop (i*U.wd τ+off+gl.length)):=by
 obtain⟨h1,h2,h3⟩:=h
 have hN:i*U.wd τ+U.wd τ<=xs.length*U.wd τ:=by
  have:(i+1)*U.wd τ<=xs.length*U.wd τ:=kf _ hi
  rw[kc,ta] at this
  exact this
 refine⟨by simp only[rj,kg,px,r9];omega,by simp only[rj,kg,px,r9];omega,fun n x j c hx hj=> ?_⟩
 have om:=U.dB τ _ y hd
 have sR:j<U.wd τ:=by
  rw[<-U.aM τ x]
  rcases eW j (U.enc τ x).length with h|h
  ·exact h
  ·rw[eD h] at hj;cases hj
 have Fh:∀{α:Type}(l m:List α)(z:α)(k:Nat),m.length=ds.length->i*U.wd τ+off+m.length<=l.length->
   (l.take (i*U.wd τ+off)++m++l.drop (i*U.wd τ+off+m.length)).getD k z=if i*U.wd τ+off<=k/\k<i*U.wd τ+off+m.length then m.getD (k-(i*U.wd τ+off)) z else l.getD k z:=by
  intro α l m z k hm hl
  by_cases kF:k<i*U.wd τ+off
  ·rw[if_neg (by omega),pN (by simp;omega),pN (by simp;omega),cI,eP,if_pos kF,cI]
  ·by_cases ej:k<i*U.wd τ+off+m.length
   ·rw[if_pos (by omega),pN (by simp;omega),sg (by simp;omega)]
    congr 1;simp;omega
   ·rw[if_neg (by omega),sg (by simp;omega),cI,mQ,cI]
    congr 2;simp;omega
 rw[Fh vs us undef _ kA (by omega),Fh fl gl [] _ uC (by omega)]
 rw[kA,uC]
 by_cases EG:n=i
 ·subst EG
  rw[F8 (by simpa using hi)] at hx
  cases hx
  rw[om] at hj
  have iS:=bg (d:=U.bn τ) hi
  by_cases PU:j<off
  ·rw[if_neg (by omega),if_neg (by omega)]
   refine h3 n _ j c iS ?_
   rw[jz,jA (by simp[U.aM];omega),eP,if_pos PU] at hj
   exact hj
  ·by_cases Rh:j<off+ds.length
   ·rw[if_pos (by omega),if_pos (by omega)]
    have e:n*U.wd τ+j-(n*U.wd τ+off)=j-off:=by omega
    rw[e]
    refine oq (j-off) c ?_
    have uk:((U.enc τ (xs.getD n (U.bn τ))).take off).length=off:=by simp[U.aM];omega
    rw[jA (by simp[U.aM];omega),kj (by omega),uk] at hj
    exact hj
   ·rw[if_neg (by omega),if_neg (by omega)]
    refine h3 n _ j c iS ?_
    have uk:((U.enc τ (xs.getD n (U.bn τ))).take off++ds).length=off+ds.length:=by simp[U.aM];omega
    rw[kj (by omega),uk,mQ] at hj
    rw[<-hj];congr 1;omega
 ·rw[GV (Ne.symm EG)] at hx
  have EU:¬(i*U.wd τ+off<=n*U.wd τ+j/\n*U.wd τ+j<i*U.wd τ+off+ds.length):=by
   rintro⟨g1,g2⟩
   rcases eW n i with bZ|Ag
   ·have:(n+1)*U.wd τ<=i*U.wd τ:=kf _ bZ
    rw[kc,ta] at this
    omega
   ·have:(i+1)*U.wd τ<=n*U.wd τ:=kf _ (by omega)
    rw[kc,ta] at this
    omega
  rw[if_neg EU,if_neg EU]
  exact h3 n x j c hx hj
theorem Dd(N n:Nat)(h:n<N):List.range N=List.range n++n::(List.range (N-n-1)).map (·+(n+1)):=by
 have h1:N=n+((N-n-1)+1):=by omega
 conv=>lhs;rw[h1,List.range_add]
 congr 1
 rw[List.range_succ_eq_map,mR,List.map_map]
 simp only[pn,F9,true_and]
 refine th fun a _=> ?_
 simp only[Function.comp]
 omega
theorem ba.focus:∀{p:Path}{x b x':eT U}{v:Value}{l:List Nat}{ps:List Prop}{f:eT U->Option (eT U)},ba E w F true x v l->l.Nodup->walk p x=some (ps,b)->(∀q∈ps,q)->Ca p x f=some x'->
  ∃vb lb pre post b',f b=some b'/\eR w (fun c=>F c\/c∈l) v p vb/\ba E w F true b vb lb/\l=pre++lb++post/\
   ∀(w':World)(F':Nat->Prop)(s8:List Nat),b'.τ=b.τ->ba E w' F' true b' vb s8->(∀c∈pre++post,w'.heap[c]? =w.heap[c]?)->ba E w' F' true x' v (pre++s8++post):=by
 intro p
 induction p with
 |nil=>
  intro x b x' v l ps f h hn hw hp hc
  simp only[walk,bM,eX] at hw
  obtain⟨_,rfl⟩:=hw
  exact⟨v,l,[],[],x',hc,rfl,h,by simp,fun w' F' s8 _ hb _=>by simpa using hb⟩
 |cons s p ih=>
  obtain⟨i,wd,j⟩:=s
  intro x b x' v l ps f h hn hw hp hc
  obtain⟨τ,xs⟩:=x
  simp only[walk] at hw
  cases iF:Nat.beq wd (U.wd τ)<;>simp only[iF,cond_false,cond_true] at hw
  ·cases hw
  ·have uh:wd=U.wd τ:=en iF
   subst uh
   split at hw
   ·rename_i GR ys hx
    split at hw
    ·rename_i pP b0 Em
     simp only[bM,eX] at hw
     obtain⟨rfl,rfl⟩:=hw
     have hi:i<xs.length:=hp _ (by simp)
     have iS:=bg (d:=U.bn τ) hi
     simp only[Ca,hx] at hc
     split at hc
     ·rename_i b1 gE
      split at hc
      ·rename_i x1 BN
       rw[Dt BN] at hc
       cases hc
       rcases h with⟨h0,_⟩|⟨g,cap,cur,vs,bT,h1,h2,h3,h4,h5,h6,h7,h8⟩
       ·simp only at h0;subst h0;simp at hi
       ·simp only at h1 h2 h3 h5 h6 h7 h8
        have bZ:=bw iS hx
        have fD:=(h7 i _ j _ iS hx).jK
        have xE:l=(g::(List.range (i*U.wd τ+j)).flatMap bT)++bT (i*U.wd τ+j)++((List.range (xs.length*U.wd τ-(i*U.wd τ+j)-1)).map (·+(i*U.wd τ+j+1))).flatMap bT:=by
         rw[h8,Dd _ _ bZ,BH,ln]
         simp[jz]
        have wL:(bT (i*U.wd τ+j)).Nodup:=by
         rw[xE] at hn
         exact(fW.1 (fW.1 hn).1).2.1
        obtain⟨vb,lb,pre,post,b',f1,f2,f3,f4,f5⟩:=ih (x:=⟨GR,ys⟩) fD wL Em (fun q hq=>hp q (by simp[hq])) gE
        have sS:w.cell? ⟨g,0+(i*U.wd τ+j),none⟩=some (vs (i*U.wd τ+j)):=by
         rw[ke,cell_of_row w g _ cur _ (0,0) h2];exact h6 _ bZ
        refine⟨vb,lb,(g::(List.range (i*U.wd τ+j)).flatMap bT)++pre,post++((List.range (xs.length*U.wd τ-(i*U.wd τ+j)-1)).map (·+(i*U.wd τ+j+1))).flatMap bT,b',f1,?_,f3,?_,?_⟩
        ·refine⟨g,0,_,_,vs (i*U.wd τ+j),h1,.inr (by rw[xE];simp),sS,f2.bD (fun c hc=>⟨?_,rfl⟩)⟩
         rcases hc with hc|hc
         ·exact .inl hc
         ·exact .inr (by rw[xE];simp[hc])
        ·rw[xE,f4];simp[jz]
        ·intro w' F' s8 qh aj bW
         have eU:=f5 w' F' s8 qh aj (fun c hc=>bW c (by
          rcases cZ.1 hc with hc|hc<;>simp[hc]))
         have om:=U.dB τ _ x1 BN
         refine .inr ⟨g,cap,cur,vs,fun n=>if n=i*U.wd τ+j then pre++s8++post else bT n,by simpa using h1,?_,by simpa using h3,h4,h5,by simpa using h6,fun n y m c hy hm=> ?_,?_⟩
         ·rw[bW g (by simp)];exact h2
         ·simp only at hy
          by_cases gi:n=i/\m=j
          ·obtain⟨rfl,rfl⟩:=gi
           rw[F8 (by simpa using hi)] at hy
           cases hy
           rw[om] at hm
           have PJ:m<(U.enc τ (xs.getD n (U.bn τ))).length:=by
            rcases eW m (U.enc τ (xs.getD n (U.bn τ))).length with h|h
            ·exact h
            ·rw[eD h] at hx;cases hx
           rw[F8 PJ] at hm
           cases hm
           simp only[if_true]
           exact eU.sa
          ·have hold:∃z,xs[n]? =some z/\(U.enc τ z)[m]? =some c:=by
            by_cases EG:n=i
            ·subst EG
             rw[F8 (by simpa using hi)] at hy
             cases hy
             rw[om,GV (fun e=>gi ⟨rfl,e.symm⟩)] at hm
             exact⟨_,iS,hm⟩
            ·rw[GV (Ne.symm EG)] at hy
             exact⟨y,hy,hm⟩
           obtain⟨z,hz,jQ⟩:=hold
           have PH:m<U.wd τ:=by
            rw[<-U.aM τ z]
            rcases eW m (U.enc τ z).length with h|h
            ·exact h
            ·rw[eD h] at jQ;cases jQ
           have sR:j<U.wd τ:=by
            rw[<-U.aM τ (xs.getD i (U.bn τ))]
            rcases eW j (U.enc τ (xs.getD i (U.bn τ))).length with h|h
            ·exact h
            ·rw[eD h] at hx;cases hx
           have a_:n*U.wd τ+m≠i*U.wd τ+j:=by
            intro e
            have h1:(n*U.wd τ+m)/U.wd τ=n:=by rw[xh,Nat.mul_add_div (U.c_ τ),FU PH,pn]
            have h2:(i*U.wd τ+j)/U.wd τ=i:=by rw[xh,Nat.mul_add_div (U.c_ τ),FU sR,pn]
            have:n=i:=by rw[<-h1,e,h2]
            exact gi ⟨this,by subst this;omega⟩
           show Rp E w' F' true c (vs (n*U.wd τ+m)) (if n*U.wd τ+m=i*U.wd τ+j then pre++s8++post else bT (n*U.wd τ+m))
           rw[if_neg a_]
           have PM:=bw hz jQ
           refine(h7 n z m c hz jQ).gR (fun c' dM=>bW c' ?_)
           rcases Nat.lt_or_gt_of_ne a_ with qS|xS
           ·simp only[cZ,dQ,eY,hU]
            exact .inl (.inl (.inr ⟨_,qS,dM⟩))
           ·simp only[cZ,eY,ez,hU]
            refine .inr (.inr ⟨n*U.wd τ+m,⟨n*U.wd τ+m-(i*U.wd τ+j+1),by omega,by omega⟩,dM⟩)
         ·simp only[r9]
          rw[Dd _ _ bZ,BH,ln,if_pos rfl]
          have e1:(List.range (i*U.wd τ+j)).flatMap (fun n=>if n=i*U.wd τ+j then pre++s8++post else bT n)=(List.range (i*U.wd τ+j)).flatMap bT:=by
           rw[r_,r_]
           congr 1
           refine th fun n hn=> ?_
           rw[if_neg (by have:=hU.1 hn;omega)]
          have e2:((List.range (xs.length*U.wd τ-(i*U.wd τ+j)-1)).map (·+(i*U.wd τ+j+1))).flatMap (fun n=>if n=i*U.wd τ+j then pre++s8++post else bT n)=((List.range (xs.length*U.wd τ-(i*U.wd τ+j)-1)).map (·+(i*U.wd τ+j+1))).flatMap bT:=by
           rw[r_,r_]
           congr 1
           refine th fun n hn=> ?_
           obtain⟨m,_,rfl⟩:=ez.1 hn
           rw[if_neg (by omega)]
          rw[e1,e2]
          simp[jz]
      ·cases hc
     ·cases hc
    ·cases hw
   ·cases hw
theorem aC.vL(h:aC E pm F kv fp σ a w){o:Oper}(ho:o.dst=none)(k:Key)(e0 e:b9 U)(eL:σ.aq k=some e0)(ks:List Key)(ps:List Prop)(kU:List Nat)(i_:k∉ks)
  (hE:∀bad,(∀k',fo w w' kv kv fp (aO fp k kU) (av σ) bad k')->gO E w' F' kv (aO fp k kU) bad e (kv k) kU)
  (kY:∀b,F b->F' b/\w'.heap[b]? =w.heap[b]?)
  (mq:∀b,F' b->F b\/∃k'∈k::ks,(σ.aq k').isSome=true/\b∈fp k')
  (cG:∀k' e,k'≠k->k'∉ks->σ.aq k'=some e->∀b∈fp k',w'.heap[b]? =w.heap[b]?)
  (eH:kU.Nodup) (xL:∀b∈kU,¬F' b/\∃k'∈k::ks,(σ.aq k').isSome=true/\b∈fp k')
  (eJ:bH (fun b=>pm.W b\/pm.w0.heap.size<=b) w w'):
  aC E pm F' kv (aO fp k kU) (AM.apply o ⟨none,[],ks,[(k,e)],ps⟩ σ) (a.put o.dst undef) w':=by
 have cP:aQ o (⟨none,[],ks,[(k,e)],ps⟩:aw U)=[]:=rfl
 have cX:cF (⟨none,[],ks,[(k,e)],ps⟩:aw U)=[k]:=rfl
 have gW:∀k',fo w w' kv kv fp (aO fp k kU) (av σ) (av (AM.apply o ⟨none,[],ks,[(k,e)],ps⟩ σ)) k':=by
  intro k'
  refine⟨rfl,?_⟩
  by_cases hk:k'=k
  ·left
   subst hk
   have:(AM.apply o (⟨none,[],ks,[(k',e)],ps⟩:aw U) σ).ag.any (cn k')=true:=gr.2 (by simp[AM.apply])
   simp[av,this]
  ·by_cases z_:k'∈ks
   ·left
    simp[av,y7 o _ σ k' (by rw[cP];simp) (by rw[cX];simpa using hk) z_]
   ·have KG:=y5 o (⟨none,[],ks,[(k,e)],ps⟩:aw U) σ k' (by rw[cP];simp) (by rw[cX];simpa using hk) z_
    have qW:(AM.apply o (⟨none,[],ks,[(k,e)],ps⟩:aw U) σ).ag.any (cn k')=σ.ag.any (cn k'):=by
     rw[Cl,gr,gr]
     simp[AM.apply,hk]
    cases hb:av σ k'
    ·right
     refine⟨rfl,la hk,?_⟩
     simp only[av,vr] at hb
     obtain⟨e',bf⟩:∃e,σ.aq k'=some e:=by
      cases hx:σ.aq k' with
      |none=>rw[hx] at hb;simp at hb
      |some e=>exact⟨e,rfl⟩
     exact cG k' e' hk z_ bf
    ·left
     simp only[av] at hb⊢
     rw[KG,qW];exact hb
 have eU:∀b,(∃k'∈k::ks,(σ.aq k').isSome=true/\b∈fp k')->(pm.W b\/pm.w0.heap.size<=b)/\b<w.heap.size:=by
  rintro b ⟨k',_,hl,hb⟩
  obtain⟨e',bf⟩:=ef.1 hl
  exact(h.bC k' e' b bf hb).2
 refine h.apply o _ undef (fun x hx=>by rw[ho] at hx;cases hx) ?_ (fun _ _=>rfl) ?_ ?_ kY ?_ ?_ ?_ ?_ ?_ ?_ (h.upto.trans eJ) eJ.size
 ·intro x hx;cases hx
 ·intro k' _ hk;rw[cX] at hk;exact la (by simpa using hk)
 ·intro k' hk;rw[cP] at hk;simp at hk
 ·intro k' e' _ hk ej he b hb;rw[cX] at hk;exact cG k' e' (by simpa using hk) ej he b hb
 ·rintro k' e' (⟨j,_,hj⟩|hk)
  ·simp at hj
  ·simp only[gj,eX] at hk
   obtain⟨rfl,rfl⟩:=hk
   rw[gV]
   refine⟨hE _ gW,eH,fun b hb=> ?_⟩
   obtain⟨h1,h2⟩:=xL b hb
   have h3:=eU b h2
   have:=eJ.size
   exact⟨h1,h3.1,by omega⟩
 ·intro k' e' b _ hk ej he hb jr
  rw[cX] at hk
  rcases mq b jr with h1|⟨k2,mi,hl,aj⟩
  ·exact(h.bC k' e' b he hb).1 h1
  ·obtain⟨e2,g_⟩:=ef.1 hl
   exact h.apart k' k2 e' e2 b (fun e=>by subst e;rcases dQ.1 mi with rfl|h;exact hk (by simp);exact ej h) he g_ hb aj
 ·intro k1 k' b a_ hk aG hb
  rw[cP,cX] at hk aG
  simp only[gj,vt,false_or] at hk aG
  subst hk
  rw[gV] at hb
  rcases aG with rfl|⟨aG,p5⟩
  ·exact absurd rfl a_
  ·rw[la (Ne.symm a_)]
   obtain⟨e',bf⟩:=ef.1 p5
   intro aj
   obtain⟨k2,ej,hl,cq⟩:=(xL b hb).2
   obtain⟨e2,g_⟩:=ef.1 hl
   exact h.apart k2 k' e2 e' b (fun e=>by subst e;rcases dQ.1 ej with rfl|h;exact a_ rfl;exact aG h) g_ bf cq aj
 ·intro b hb
  rcases mq b hb with h1|h1
  ·have:=h.hJ b h1;have:=eJ.size;omega
  ·have:=(eU b h1).2;have:=eJ.size;omega
 ·intro b hb
  rcases mq b hb with h1|h1
  ·exact h.hH b h1
  ·exact .inr (eU b h1).1
theorem vS{P:Program}{t:TypeId}{n g off:Nat}{cur:Array Value}{e:TypeId}{v:Value}(hs:(P.info? t).map (·.size)=some n)(hv:v.cells.size=n)(h1:∀u∈v.cells.toList,u.oneCell'=true)
  (hg:w.heap[g]? =some (.cells cur e (0,0))) (hle:off+n<=cur.size):
  (Instr.storeAt t (.pointer (some ⟨g,off,none⟩)) v).run P w=.ok () (w.setRow g (cur.toList.take off++v.cells.toList++cur.toList.drop (off+n)).toArray):=by
 cases hq:P.info? t with
 |none=>rw[hq] at hs;cases hs
 |some i=>
  rw[hq] at hs
  simp only[mP,bM] at hs
  have gW:=run_storeCells_at P g off e v.cells.toList 0 cur w hg (by simp;omega) h1
  simp only[pn,mS] at gW
  simp[Instr.storeAt,Instr.sureAddr,storeVar,Go.sizeOf,typeInfo,hq,gW,hv]
  omega
theorem dC.bx{xs:List (AC U)}{vs:List Value}(h:dC E w F kv fp bad xs vs):∀v∈vs,v.oneCell'=true:=by
 intro v hv
 obtain⟨n,hn,rfl⟩:=pA hv
 exact(h.2 n (xs[n]'(by rw[h.1];exact hn)) _ (cE _) (cE hn)).1.1
theorem Ho(h:aC E pm F kv fp σ a w){o:Oper}(ho:o.dst=none){t:TypeId}{x y:Operand}(fV:o.op=.store t x y){sx:SV U}{yx:AC U}{z:AV U}{n:Nat}{rs:List Key}{r:aw U}
  (hx:RS E w F kv fp (av σ) sx (a.eval x)) (jT:iA sx=some yx) (hy:RS E w F kv fp (av σ) (.v z) (a.eval y)) (hs:E.size t=some n) (hn:n=z.cs.length)
  (hr:storeAt (restrict σ.aq rs) σ.ag z yx=some r) (hp:∀p∈r.pre,p) {next:Act->World->Prop} {Q:Exit->Act->World->Prop}
  (zO:∀F kv fp a' w',aC E pm F kv fp (AM.apply o r σ) a' w'->next a' w'):o.wp E.P a w next Q:=by
 have lz:=de hx jT
 obtain⟨jy,mY⟩:=sj hy
 have exec:∀{w1},(Instr.storeAt t (a.eval x) (a.eval y)).run E.P w=.ok () w1->(execOp a.eval o).run E.P w=.ok .skip w1:=by
  intro w1 hr
  unfold execOp;simp only[fV]
  rw[Sem.run_bind,hr];rfl
 unfold storeAt at hr
 split at hr
 ·rename_i k off
  split at hr
  ·rename_i cs he
   have bf:=cJ he
   cases hb:Nat.ble (off+z.cs.length) cs.length<;>simp only[hb,cond_false,cond_true] at hr
   ·cases hr
   ·have hle:=pz hb
    cases hr
    obtain⟨b,h1,h2⟩:=ax lz rfl
    obtain⟨b',cur,e,h3,h4,h5,h6⟩:=h.aJ k _ bf
    rw[h1] at h3;cases h3
    have cp:cs.length=cur.size:=by simpa using h6.1
    have cu:=vS (P:=E.P) (n:=n) (off:=off) (v:=a.eval y) hs (by rw[mY];exact hn.symm) jy.bx h4 (by omega)
    rw[<-h2] at cu
    refine tx (exec cu) (zO F kv (aO fp k [b]) _ _ (h.vL ho k _ _ bf [] [] [b] (by simp) ?_ ?_ ?_ ?_ ?_ ?_ ?_))
    ·intro bad gW
     refine⟨b,_,e,h1,setRow_heap w b cur _ _ _ h4,rfl,?_⟩
     have jr:∀b',F b'->F b'/\(w.setRow b (cur.toList.take off++(a.eval y).cells.toList++cur.toList.drop (off+n)).toArray).heap[b']? =w.heap[b']? :=fun b' aj=>
      ⟨aj,setRow_other w b b' _ (fun e=>(h.bC k _ b bf (by rw[h5];simp)).1 (e▸aj))⟩
     have:=(((h6.take off).append jy).append (h6.drop (off+n))).move (bad':=bad) (kv':=kv) (fp':=aO fp k [b]) (fun _ _ k' _=>gW k') jr
     rw[hn] at this⊢
     simpa using this
    ·intro b' aj;exact⟨aj,setRow_other w b b' _ (fun e=>(h.bC k _ b bf (by rw[h5];simp)).1 (e▸aj))⟩
    ·intro b' aj;exact .inl aj
    ·intro k' e' hk _ g_ b' aj
     exact setRow_other w b b' _ (fun e=>h.apart k' k _ _ b' hk g_ bf aj (by rw[h5,e];simp))
    ·simp
    ·intro b' aj
     rw[gj.1 aj]
     exact⟨(h.bC k _ b bf (by rw[h5];simp)).1,k,by simp,by simp[bf],by rw[h5];simp⟩
    ·exact⟨rfl,rfl,rfl,by simp,fun b' _ pW=>setRow_other w b b' _ (fun e=>pW (by rw[e];exact(h.bC k _ b bf (by rw[h5];simp)).2.1))⟩
  ·cases hr
 ·rename_i k p i wd off
  split at hr
  ·rename_i x0 d he
   have bf:=cJ he
   cases cp:bE (restrict σ.aq rs) σ.ag k p<;>simp only[cp,cond_false,cond_true] at hr
   ·cases hr
   ·split at hr
    ·rename_i ps b hw
     split at hr
     ·rename_i qs ds ks d' gy
      split at hr
      ·rename_i x' xV
       cases eo:(Nat.beq wd (U.wd b.τ)&&Nat.ble (off+ds.length) (U.wd b.τ)&&distinct (k::ks)&&((d&&d')||p.isEmpty))<;>simp only[eo,cond_false,cond_true] at hr
       ·cases hr
       ·cases hr
        simp only[dR] at eo
        obtain⟨⟨⟨c1,c2⟩,c3⟩,c4⟩:=eo
        have iF:=en c1
        subst iF
        have hle:=pz c2
        have kW:=ic.1 c3
        have i_:k∉ks:=(fU.1 kW).1
        have hi:i<b.xs.length:=hp _ (by simp)
        have qO:∀q∈ps,q:=fun q hq=>hp q (by simp[hq])
        obtain⟨t1,t2,t3,t4⟩:=qy h gy (fun q hq=>hp q (by simp[hq])) jy (fU.1 kW).2
        obtain⟨bb,oo,nn,cc,eG,hv⟩:=ax lz (nV cp he)
        have ei:ba E w F d x0 (kv k) (fp k):=h.aJ k _ bf
        have eH:=h.nodup k _ bf
        have KI:ds.length=n:=by rw[t1,hn]
        have B4:(a.eval y).cells.toList.length=ds.length:=by simp[mY,t1]
        have node:∀{g cap:Nat}{cur:Array Value}{vs:List Value},(.slice (some ⟨bb,oo,none⟩) nn cc:Value)=.slice (some ⟨g,0,none⟩) b.xs.length cap->w.heap[g]? =some (.cells cur (E.tid b.τ) (0,0))->b.xs.length<=cap->
          cur.size=cap*U.wd b.τ->cur.toList.take (b.xs.length*U.wd b.τ)=vs->
          (Instr.storeAt t (a.eval x) (a.eval y)).run E.P w=.ok () (w.setRow g (cur.toList.take (i*U.wd b.τ+off)++(a.eval y).cells.toList++cur.toList.drop (i*U.wd b.τ+off+n)).toArray)/\
          (cur.toList.take (i*U.wd b.τ+off)++(a.eval y).cells.toList++cur.toList.drop (i*U.wd b.τ+off+n)).toArray.size=cap*U.wd b.τ/\
          (cur.toList.take (i*U.wd b.τ+off)++(a.eval y).cells.toList++cur.toList.drop (i*U.wd b.τ+off+n)).toArray.toList.take (b.xs.length*U.wd b.τ)=
           vs.take (i*U.wd b.τ+off)++(a.eval y).cells.toList++vs.drop (i*U.wd b.τ+off+(a.eval y).cells.toList.length):=by
         intro g cap cur vs e1 e2 e3 e4 e5
         simp only[Value.slice.injEq,bM,Addr.mk.injEq,and_true] at e1
         obtain⟨⟨rfl,rfl⟩,_,_⟩:=e1
         have hN:i*U.wd b.τ+U.wd b.τ<=b.xs.length*U.wd b.τ:=by
          have:(i+1)*U.wd b.τ<=b.xs.length*U.wd b.τ:=kf _ hi
          rw[kc,ta] at this
          exact this
         have jR:b.xs.length*U.wd b.τ<=cap*U.wd b.τ:=kf _ e3
         have cu:=vS (P:=E.P) (n:=n) (off:=i*U.wd b.τ+off) (v:=a.eval y) hs (by rw[mY];exact hn.symm) jy.bx e2 (by omega)
         refine⟨by rw[hv,ke];exact cu,by simp only[xi,rj,kg,px,mS,mY,<-hn];omega,?_⟩
         subst e5
         refine vp fun m=> ?_
         rw[eP]
         by_cases hm:m<b.xs.length*U.wd b.τ
         ·rw[if_pos hm]
          by_cases h1:m<i*U.wd b.τ+off
          ·rw[jz,jA (by simp;omega),jz,jA (by simp;omega),eP,if_pos h1,eP,if_pos h1,eP,if_pos hm]
          ·by_cases h2:m<i*U.wd b.τ+off+n
           ·rw[jA (by simp[mY,<-hn];omega),kj (by simp;omega),jA (by simp[mY,<-hn];omega),kj (by simp;omega)]
            congr 1;simp;omega
           ·rw[kj (by simp[mY,<-hn];omega),kj (by simp[mY,<-hn];omega),mQ,mQ,eP,if_pos (by simp[mY,<-hn];omega)]
            congr 1;simp[mY,<-hn];omega
         ·rw[if_neg hm,eD]
          simp only[rj,kg,px,mS,mY,<-hn]
          omega
        have oj:∀b'∈k::ks,(σ.aq b').isSome=true:=fun k' aG=>by
         rcases dQ.1 aG with rfl|aG
         ·simp[bf]
         ·exact t2 k' aG
        have mo:∀k'∈k::ks,∀b'∈fp k',¬F b'/\(pm.W b'\/pm.w0.heap.size<=b'):=fun k' aG b' aj=>by
         obtain⟨e,he⟩:=ef.1 (oj k' aG)
         exact⟨(h.bC k' e b' he aj).1,(h.bC k' e b' he aj).2.1⟩
        have rL:∀k'∈ks,∀b'∈fp k',b'∉fp k:=fun k' aG b' aj gT=>by
         obtain⟨e,he⟩:=ef.1 (t2 k' aG)
         exact h.apart k' k _ _ b' (fun e=>i_ (e▸aG)) he bf aj gT
        have cL:∀{g:Nat},g∈fp k->∀(cells:Array Value) k' e,k'≠k->k'∉ks->σ.aq k'=some e->∀b'∈fp k',(w.setRow g cells).heap[b']? =w.heap[b']? :=fun hg cells k' e' hk _ g_ b' aj=>
         setRow_other w _ b' _ (fun e=>h.apart k' k _ _ b' hk g_ bf aj (e▸hg))
        have Er:∀{g:Nat},g∈fp k->∀(cells:Array Value),bH (fun b=>pm.W b\/pm.w0.heap.size<=b) w (w.setRow g cells):=fun hg cells=>
         ⟨rfl,rfl,rfl,by simp,fun b' _ pW=>setRow_other w _ b' _ (fun e=>pW (e▸(mo k (by simp) _ hg).2))⟩
        cases dq:(d&&d') with
        |true=>
         simp only[dR] at dq
         obtain⟨rfl,rfl⟩:=dq
         obtain⟨gl,Qs,Qr,Qq,OV⟩:=t3 rfl
         obtain⟨vb,lb,pre,post,b',f1,f2,f3,f4,f5⟩:=ei.focus eH hw qO xV
         have s9:vb=.slice (some ⟨bb,oo,none⟩) nn cc:=f2.unique eG
         rcases f3.rows with⟨h3,_⟩|⟨g,cap,cur,vs,fl,h3,h4,h5,h6,h7,h8,h9,js⟩
         ·rw[h3] at hi;simp at hi
         ·obtain⟨n1,n2,n3⟩:=node (s9▸h3) h4 h5 h7 h8
          rw[yJ] at f1
          split at f1
          ·rename_i yy qX
           cases f1
           have mh:=h9.patch hi qX hle B4 Qs Qr
           have uD:g∈fp k:=by rw[f4,js];simp
           have Ko:(g::fl.flatten).Nodup:=by
            rw[f4,js] at eH
            exact(fW.1 (fW.1 eH).1).2.1
           have ES:∀b'∈gl.flatten,b'∉fp k:=fun b' aj=>by
            obtain⟨k',aG,aj⟩:=OV b' aj
            exact rL k' aG b' aj
           have eg:((fl.take (i*U.wd b.τ+off)).flatten++(fl.drop (i*U.wd b.τ+off+gl.length)).flatten).Sublist fl.flatten:=by
            have h1:fl.flatten=(fl.take (i*U.wd b.τ+off)).flatten++(fl.drop (i*U.wd b.τ+off)).flatten:=by rw[<-pq,vq]
            have h2:(fl.drop (i*U.wd b.τ+off)).flatten=((fl.drop (i*U.wd b.τ+off)).take gl.length).flatten++((fl.drop (i*U.wd b.τ+off)).drop gl.length).flatten:=by rw[<-pq,vq]
            rw[h1,h2,List.drop_drop]
            exact List.Sublist.append_left (GU _ _) _
           have xT:(fl.take (i*U.wd b.τ+off)++gl++fl.drop (i*U.wd b.τ+off+gl.length)).flatten=(fl.take (i*U.wd b.τ+off)).flatten++gl.flatten++(fl.drop (i*U.wd b.τ+off+gl.length)).flatten:=by
            simp[pq]
           have uv:∀c∈(fl.take (i*U.wd b.τ+off)++gl++fl.drop (i*U.wd b.τ+off+gl.length)).flatten,c∈gl.flatten\/c∈fl.flatten:=by
            intro c hc
            rw[xT,cZ,cZ] at hc
            rcases hc with(hc|hc)|hc
            ·exact .inr (eg.subset (by simp[hc]))
            ·exact .inl hc
            ·exact .inr (eg.subset (eZ _ hc))
           have KA:∀c∈(fl.take (i*U.wd b.τ+off)++gl++fl.drop (i*U.wd b.τ+off+gl.length)).flatten,c≠g:=by
            intro c hc e
            rcases uv c hc with hc|hc
            ·exact ES c hc (e▸uD)
            ·exact(fU.1 Ko).1 (e▸hc)
           have og:=ba.d_ (E:=E) (w:=w.setRow g (cur.toList.take (i*U.wd b.τ+off)++(a.eval y).cells.toList++cur.toList.drop (i*U.wd b.τ+off+n)).toArray) (F:=F) (setRow_heap w g cur _ _ _ h4) (by simpa using h5) h6 n2
            (by rw[r9];exact n3) (mh.gR (fun c hc=>setRow_other w g c _ (KA c hc)))
           rw[r9] at og
           have ED:∀c∈pre++post,c≠g:=by
            intro c hc e
            subst e
            rw[f4,js] at eH
            have EH:=fW.1 eH
            have Ki:=fW.1 EH.1
            rcases cZ.1 hc with hc|hc
            ·exact Ki.2.2 c hc c (by simp) rfl
            ·exact EH.2.2 c (by simp) c hc rfl
           have kX:=f5 (w.setRow g (cur.toList.take (i*U.wd b.τ+off)++(a.eval y).cells.toList++cur.toList.drop (i*U.wd b.τ+off+n)).toArray) F _ rfl (by rw[h3];exact og) (fun c hc=>setRow_other w g c _ (ED c hc))
           refine tx (exec n1) (zO F kv (aO fp k _) _ _ (h.vL ho k _ _ bf ks _ _ i_ (fun bad gW=>kX) ?_ (fun b' aj=> .inl aj) (cL uD _) ?_ ?_ (Er uD _)))
           ·intro b' aj;exact⟨aj,setRow_other w g b' _ (fun e=>(mo k (by simp) g uD).1 (e▸aj))⟩
           ·have E5:(pre++(g::((fl.take (i*U.wd b.τ+off)).flatten++(fl.drop (i*U.wd b.τ+off+gl.length)).flatten))++post).Nodup:=by
             rw[f4,js] at eH
             exact(List.Sublist.append_right (List.Sublist.append_left (List.Sublist.cons_cons _ eg) _) _).nodup eH
            have hG:(gl.flatten++(pre++(g::((fl.take (i*U.wd b.τ+off)).flatten++(fl.drop (i*U.wd b.τ+off+gl.length)).flatten))++post)).Nodup:=by
             refine fW.2 ⟨Qq,E5,fun c hc c' dM e=> ?_⟩
             subst e
             refine ES c hc ?_
             rw[f4,js]
             simp only[cZ,dQ] at dM⊢
             rcases dM with(dM|dM|dM|dM)|dM
             ·exact .inl (.inl dM)
             ·exact .inl (.inr (.inl dM))
             ·exact .inl (.inr (.inr (eg.subset (by simp[dM]))))
             ·exact .inl (.inr (.inr (eg.subset (eZ _ dM))))
             ·exact .inr dM
            rw[xT]
            refine(List.Perm.nodup_iff ?_).2 hG
            refine List.perm_iff_count.2 fun c=> ?_
            simp only[List.count_append,List.count_cons]
            omega
           ·intro b' aj
            simp only[cZ,dQ] at aj
            have uO:b'∈fp k\/b'∈gl.flatten:=by
             rcases aj with(aj|aj|aj)|aj
             ·left;rw[f4];simp[aj]
             ·left;rw[aj];exact uD
             ·rcases uv b' aj with aj|aj
              ·exact .inr aj
              ·left;rw[f4,js];simp[aj]
             ·left;rw[f4];simp[aj]
            rcases uO with aj|aj
            ·exact⟨(mo k (by simp) b' aj).1,k,by simp,by simp[bf],aj⟩
            ·obtain⟨k',aG,aj⟩:=OV b' aj
             exact⟨(mo k' (by simp[aG]) b' aj).1,k',by simp[aG],t2 k' aG,aj⟩
          ·cases f1
        |false=>
         rw[dq,rh,List.isEmpty_iff] at c4
         subst c4
         simp only[walk,bM,eX] at hw
         obtain⟨_,rfl⟩:=hw
         simp only[Ca] at xV
         have s9:kv k=.slice (some ⟨bb,oo,none⟩) nn cc:=Eq.symm eG
         rcases ei.rows with⟨h3,_⟩|⟨g,cap,cur,vs,fl,h3,h4,h5,h6,h7,h8,h9,js⟩
         ·rw[h3] at hi;simp at hi
         ·obtain⟨n1,n2,n3⟩:=node (s9▸h3) h4 h5 h7 h8
          rw[yJ] at xV
          split at xV
          ·rename_i yy qX
           cases xV
           have uD:g∈fp k:=by rw[js];simp
           have jr:∀c,(F c\/c∈fl.flatten\/∃k'∈ks,c∈fp k')->c≠g:=by
            rintro c (hc|hc|⟨k',aG,hc⟩) rfl
            ·exact(mo k (by simp) c uD).1 hc
            ·rw[js] at eH;exact(fU.1 eH).1 hc
            ·exact rL k' aG c hc uD
           have zC:=h9.di (F':=fun c=>F c\/c∈fl.flatten\/∃k'∈ks,c∈fp k') (fun c hc=> .inl hc) (fun c hc=> .inr (.inl hc))
           have mh:=zC.patch hi qX hle (us:=(a.eval y).cells.toList) (gl:=List.replicate ds.length []) B4 (by simp) (fun m c hc=>by
            rw[nT];exact(t4 m c hc).bG (fun c hc=>hc.imp id .inr))
           have bW:=mh.bD (w':=w.setRow g (cur.toList.take (i*U.wd x0.τ+off)++(a.eval y).cells.toList++cur.toList.drop (i*U.wd x0.τ+off+n)).toArray)
            (F':=fun c=>F c\/c∈fl.flatten\/∃k'∈ks,c∈fp k') (fun c hc=>⟨hc,setRow_other w g c _ (jr c hc)⟩) (by rw[mh.p_];simp)
           have og:=ba.d_ (E:=E) (setRow_heap w g cur _ _ _ h4) (by simpa using h5) h6 n2 (by rw[r9];exact n3) bW
           rw[mh.p_,r9] at og
           refine tx (exec n1) (zO (fun c=>F c\/c∈fl.flatten\/∃k'∈ks,c∈fp k') kv (aO fp k _) _ _ (h.vL ho k _ _ bf ks _ [g] i_ (fun bad gW=>by rw[h3,dq];exact og) ?_ ?_ (cL uD _) (by simp) ?_ (Er uD _)))
           ·intro b' aj;exact⟨.inl aj,setRow_other w g b' _ (jr b' (.inl aj))⟩
           ·rintro c (hc|hc|⟨k',aG,hc⟩)
            ·exact .inl hc
            ·exact .inr ⟨k,by simp,by simp[bf],by rw[js];simp[hc]⟩
            ·exact .inr ⟨k',by simp[aG],t2 k' aG,hc⟩
           ·intro b' aj
            rw[gj.1 aj]
            exact⟨fun hc=>jr g hc rfl,k,by simp,by simp[bf],uD⟩
          ·cases xV
      ·cases hr
     ·cases hr
    ·cases hr
  ·cases hr
 ·cases hr
end AM
