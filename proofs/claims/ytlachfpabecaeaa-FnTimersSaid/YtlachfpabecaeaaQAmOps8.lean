/- THE ABSTRACT MACHINE: stores. -/
import Derived.Test.YtlachfpabecaeaaQAmOps7
namespace AM
set_option linter.unusedVariables false
open Go
variable{U:dw}{E:Env U}{pm:Pm}
variable{F F':Nat->Prop}{kv:Key->Value}{fp:Key->List Nat}{σ:aa U}{a:Act}{w w':World}{bad:Key->Bool}
theorem Rp.ij{w w':World}{F F':Nat->Prop}{c:U.C}{v:Value}{l:List Nat}(h:Rp E w F true c v l)(hl:∀b∈l,w'.heap[b]? =w.heap[b]?):Rp E w' F' true c v l:=by
 generalize hm:true=m at h
 induction h with
 |lit m v h=>subst hm;exact .lit _ v h
 |nil m τ a c h=>subst hm;exact .nil _ τ a c h
 |shr=>cases hm
 |own τ xs b cap cur vs bM hb hc E0 hs hv hr ih=>
  refine .own τ xs b cap cur vs bM ?_ hc E0 hs hv (fun i x j c hx hj=>ih i x j c hx hj (fun b' ap=> ?_) rfl)
  ·rw[hl b (by simp)];exact hb
  ·exact hl b' (d_ _ (fC.2 ⟨_,iD.2 (bm hx hj),ap⟩))
theorem aO.ij{τ:U.Ty}{xs:List (U.T τ)}{vs:List Value}{fl:List (List Nat)}(h:aO E w F true τ xs vs fl)(rc:∀b∈fl.flatten,w'.heap[b]? =w.heap[b]?):aO E w' F' true τ xs vs fl:=by
 refine⟨h.1,h.2.1,fun i x j c hx hj=>(h.2.2 i x j c hx hj).ij (fun b hb=>rc b ?_)⟩
 have bU:i*U.wd τ+j<fl.length:=by rw[h.2.1];exact bm hx hj
 rw[cB,cF bU] at hb
 exact zr.2 ⟨_,wQ bU,hb⟩
theorem aO.patch{deep:Bool}{τ:U.Ty}{xs:List (U.T τ)}{vs:List Value}{fl:List (List Nat)}(h:aO E w F deep τ xs vs fl){i off:Nat}{y:U.T τ}{ds:List U.C}{us:List Value}{gl:List (List Nat)}
  (hi:i<xs.length) (hd:U.dec τ ((U.enc τ (xs.getD i (U.bj τ))).take off++ds++(U.enc τ (xs.getD i (U.bj τ))).drop (off+ds.length))=some y) (hle:off+ds.length<=U.wd τ)
  (lh:us.length=ds.length) (vK:gl.length=ds.length) (po:∀(n:Nat)(c:U.C),ds[n]? =some c->Rp E w F deep c (us.getD n undef) (gl.getD n [])):
  aO E w F deep τ (xs.set i y) (vs.take (i*U.wd τ+off)++us++vs.drop (i*U.wd τ+off+us.length)) (fl.take (i*U.wd τ+off)++gl++fl.drop (i*U.wd τ+off+gl.length)):=by
 obtain⟨h1,h2,h3⟩:=h
 have hN:i*U.wd τ+U.wd τ<=xs.length*U.wd τ:=by
  have:(i+1)*U.wd τ<=xs.length*U.wd τ:=kS _ hi
  rw[j8,uA] at this
  exact this
 refine⟨by simp only[kR,jw,n0,th];omega,by simp only[kR,jw,n0,th];omega,fun n x j c hx hj=> ?_⟩
 have pn:=U.dN τ _ y hd
 have ua:j<U.wd τ:=by
  rw[<-U.aK τ x]
  rcases fA j (U.enc τ x).length with h|h
  ·exact h
  ·rw[fb h] at hj;cases hj
 have FB:∀{α:Type}(l m:List α)(z:α)(k:Nat),m.length=ds.length->i*U.wd τ+off+m.length<=l.length->
   (l.take (i*U.wd τ+off)++m++l.drop (i*U.wd τ+off+m.length)).getD k z=if i*U.wd τ+off<=k/\k<i*U.wd τ+off+m.length then m.getD (k-(i*U.wd τ+off)) z else l.getD k z:=by
  intro α l m z k hm hl
  by_cases ll:k<i*U.wd τ+off
  ·rw[if_neg (by omega),qD (by simp;omega),qD (by simp;omega),cB,fg,if_pos ll,cB]
  ·by_cases eH:k<i*U.wd τ+off+m.length
   ·rw[if_pos (by omega),qD (by simp;omega),tv (by simp;omega)]
    congr 1;simp;omega
   ·rw[if_neg (by omega),tv (by simp;omega),cB,nH,cB]
    congr 2;simp;omega
 rw[FB vs us undef _ lh (by omega),FB fl gl [] _ vK (by omega)]
 rw[lh,vK]
 by_cases EY:n=i
 ·subst EY
  rw[GC (by simpa using hi)] at hx
  cases hx
  rw[pn] at hj
  have jt:=ba (d:=U.bj τ) hi
  by_cases OL:j<off
  ·rw[if_neg (by omega),if_neg (by omega)]
   refine h3 n _ j c jt ?_
   rw[kP,j7 (by simp[U.aK];omega),fg,if_pos OL] at hj
   exact hj
  ·by_cases PW:j<off+ds.length
   ·rw[if_pos (by omega),if_pos (by omega)]
    have e:n*U.wd τ+j-(n*U.wd τ+off)=j-off:=by omega
    rw[e]
    refine po (j-off) c ?_
    have vu:((U.enc τ (xs.getD n (U.bj τ))).take off).length=off:=by simp[U.aK];omega
    rw[j7 (by simp[U.aK];omega),kT (by omega),vu] at hj
    exact hj
   ·rw[if_neg (by omega),if_neg (by omega)]
    refine h3 n _ j c jt ?_
    have vu:((U.enc τ (xs.getD n (U.bj τ))).take off++ds).length=off+ds.length:=by simp[U.aK];omega
    rw[kT (by omega),vu,nH] at hj
    rw[<-hj];congr 1;omega
 ·rw[Hk (Ne.symm EY)] at hx
  have Fa:¬(i*U.wd τ+off<=n*U.wd τ+j/\n*U.wd τ+j<i*U.wd τ+off+ds.length):=by
   rintro⟨g1,g2⟩
   rcases fA n i with bU|Bm
   ·have:(n+1)*U.wd τ<=i*U.wd τ:=kS _ bU
    rw[j8,uA] at this
    omega
   ·have:(i+1)*U.wd τ<=n*U.wd τ:=kS _ (by omega)
    rw[j8,uA] at this
    omega
  rw[if_neg Fa,if_neg Fa]
  exact h3 n x j c hx hj
theorem Du(N n:Nat)(h:n<N):List.range N=List.range n++n::(List.range (N-n-1)).map (·+(n+1)):=by
 have h1:N=n+((N-n-1)+1):=by omega
 conv=>lhs;rw[h1,List.range_add]
 congr 1
 rw[List.range_succ_eq_map,qd,List.map_map]
 simp only[qh,M_,true_and]
 refine uE fun a _=> ?_
 simp only[Function.comp]
 omega
theorem aZ.focus:∀{p:Path}{x b x':fx U}{v:Value}{l:List Nat}{ps:List Prop}{f:fx U->Option (fx U)},aZ E w F true x v l->l.Nodup->walk p x=some (ps,b)->(∀q∈ps,q)->Cr p x f=some x'->
  ∃vb lb pre post b',f b=some b'/\fw w (fun c=>F c\/c∈l) v p vb/\aZ E w F true b vb lb/\l=pre++lb++post/\
   ∀(w':World)(F':Nat->Prop)(uw:List Nat),b'.τ=b.τ->aZ E w' F' true b' vb uw->(∀c∈pre++post,w'.heap[c]? =w.heap[c]?)->aZ E w' F' true x' v (pre++uw++post):=by
 intro p
 induction p with
 |nil=>
  intro x b x' v l ps f h hn hw hp hc
  simp only[walk,bH,fB] at hw
  obtain⟨_,rfl⟩:=hw
  exact⟨v,l,[],[],x',hc,rfl,h,by simp,fun w' F' uw _ hb _=>by simpa using hb⟩
 |cons s p ih=>
  obtain⟨i,wd,j⟩:=s
  intro x b x' v l ps f h hn hw hp hc
  obtain⟨τ,xs⟩:=x
  simp only[walk] at hw
  cases je:Nat.beq wd (U.wd τ)<;>simp only[je,cond_false,cond_true] at hw
  ·cases hw
  ·have vq:wd=U.wd τ:=eI je
   subst vq
   split at hw
   ·rename_i Hf ys hx
    split at hw
    ·rename_i qG b0 EF
     simp only[bH,fB] at hw
     obtain⟨rfl,rfl⟩:=hw
     have hi:i<xs.length:=hp _ (by simp)
     have jt:=ba (d:=U.bj τ) hi
     simp only[Cr,hx] at hc
     split at hc
     ·rename_i b1 hM
      split at hc
      ·rename_i x1 B6
       rw[DK B6] at hc
       cases hc
       rcases h with⟨h0,_⟩|⟨g,cap,cur,vs,bM,h1,h2,h3,h4,h5,h6,h7,h8⟩
       ·simp only at h0;subst h0;simp at hi
       ·simp only at h1 h2 h3 h5 h6 h7 h8
        have bU:=bm jt hx
        have gf:=(h7 i _ j _ jt hx).kp
        have yS:l=(g::(List.range (i*U.wd τ+j)).flatMap bM)++bM (i*U.wd τ+j)++((List.range (xs.length*U.wd τ-(i*U.wd τ+j)-1)).map (·+(i*U.wd τ+j+1))).flatMap bM:=by
         rw[h8,Du _ _ bU,BY,mf]
         simp[kP]
        have xR:(bM (i*U.wd τ+j)).Nodup:=by
         rw[yS] at hn
         exact(gz.1 (gz.1 hn).1).2.1
        obtain⟨vb,lb,pre,post,b',f1,f2,f3,f4,f5⟩:=ih (x:=⟨Hf,ys⟩) gf xR EF (fun q hq=>hp q (by simp[hq])) hM
        have ub:w.cell? ⟨g,0+(i*U.wd τ+j),none⟩=some (vs (i*U.wd τ+j)):=by
         rw[kO,cell_of_row w g _ cur _ (0,0) h2];exact h6 _ bU
        refine⟨vb,lb,(g::(List.range (i*U.wd τ+j)).flatMap bM)++pre,post++((List.range (xs.length*U.wd τ-(i*U.wd τ+j)-1)).map (·+(i*U.wd τ+j+1))).flatMap bM,b',f1,?_,f3,?_,?_⟩
        ·refine⟨g,0,_,_,vs (i*U.wd τ+j),h1,.inr (by rw[yS];simp),ub,f2.bu (fun c hc=>⟨?_,rfl⟩)⟩
         rcases hc with hc|hc
         ·exact .inl hc
         ·exact .inr (by rw[yS];simp[hc])
        ·rw[yS,f4];simp[kP]
        ·intro w' F' uw rC ap bQ
         have fy:=f5 w' F' uw rC ap (fun c hc=>bQ c (by
          rcases cY.1 hc with hc|hc<;>simp[hc]))
         have pn:=U.dN τ _ x1 B6
         refine .inr ⟨g,cap,cur,vs,fun n=>if n=i*U.wd τ+j then pre++uw++post else bM n,by simpa using h1,?_,by simpa using h3,h4,h5,by simpa using h6,fun n y m c hy hm=> ?_,?_⟩
         ·rw[bQ g (by simp)];exact h2
         ·simp only at hy
          by_cases gR:n=i/\m=j
          ·obtain⟨rfl,rfl⟩:=gR
           rw[GC (by simpa using hi)] at hy
           cases hy
           rw[pn] at hm
           have Ox:m<(U.enc τ (xs.getD n (U.bj τ))).length:=by
            rcases fA m (U.enc τ (xs.getD n (U.bj τ))).length with h|h
            ·exact h
            ·rw[fb h] at hx;cases hx
           rw[GC Ox] at hm
           cases hm
           simp only[if_true]
           exact fy.tn
          ·have hold:∃z,xs[n]? =some z/\(U.enc τ z)[m]? =some c:=by
            by_cases EY:n=i
            ·subst EY
             rw[GC (by simpa using hi)] at hy
             cases hy
             rw[pn,Hk (fun e=>gR ⟨rfl,e.symm⟩)] at hm
             exact⟨_,jt,hm⟩
            ·rw[Hk (Ne.symm EY)] at hy
             exact⟨y,hy,hm⟩
           obtain⟨z,hz,lR⟩:=hold
           have Ov:m<U.wd τ:=by
            rw[<-U.aK τ z]
            rcases fA m (U.enc τ z).length with h|h
            ·exact h
            ·rw[fb h] at lR;cases lR
           have ua:j<U.wd τ:=by
            rw[<-U.aK τ (xs.getD i (U.bj τ))]
            rcases fA j (U.enc τ (xs.getD i (U.bj τ))).length with h|h
            ·exact h
            ·rw[fb h] at hx;cases hx
           have aX:n*U.wd τ+m≠i*U.wd τ+j:=by
            intro e
            have h1:(n*U.wd τ+m)/U.wd τ=n:=by rw[yr,Nat.mul_add_div (U.dq τ),Gv Ov,qh]
            have h2:(i*U.wd τ+j)/U.wd τ=i:=by rw[yr,Nat.mul_add_div (U.dq τ),Gv ua,qh]
            have:n=i:=by rw[<-h1,e,h2]
            exact gR ⟨this,by subst this;omega⟩
           show Rp E w' F' true c (vs (n*U.wd τ+m)) (if n*U.wd τ+m=i*U.wd τ+j then pre++uw++post else bM (n*U.wd τ+m))
           rw[if_neg aX]
           have OA:=bm hz lR
           refine(h7 n z m c hz lR).ij (fun c' ec=>bQ c' ?_)
           rcases Nat.lt_or_gt_of_ne aX with se|y_
           ·simp only[cY,dJ,fC,iD]
            exact .inl (.inl (.inr ⟨_,se,ec⟩))
           ·simp only[cY,fC,eV,iD]
            refine .inr (.inr ⟨n*U.wd τ+m,⟨n*U.wd τ+m-(i*U.wd τ+j+1),by omega,by omega⟩,ec⟩)
         ·simp only[th]
          rw[Du _ _ bU,BY,mf,if_pos rfl]
          have e1:(List.range (i*U.wd τ+j)).flatMap (fun n=>if n=i*U.wd τ+j then pre++uw++post else bM n)=(List.range (i*U.wd τ+j)).flatMap bM:=by
           rw[tj,tj]
           congr 1
           refine uE fun n hn=> ?_
           rw[if_neg (by have:=iD.1 hn;omega)]
          have e2:((List.range (xs.length*U.wd τ-(i*U.wd τ+j)-1)).map (·+(i*U.wd τ+j+1))).flatMap (fun n=>if n=i*U.wd τ+j then pre++uw++post else bM n)=((List.range (xs.length*U.wd τ-(i*U.wd τ+j)-1)).map (·+(i*U.wd τ+j+1))).flatMap bM:=by
           rw[tj,tj]
           congr 1
           refine uE fun n hn=> ?_
           obtain⟨m,_,rfl⟩:=eV.1 hn
           rw[if_neg (by omega)]
          rw[e1,e2]
          simp[kP]
      ·cases hc
     ·cases hc
    ·cases hw
   ·cases hw
theorem aE.wV(h:aE E pm F kv fp σ a w){o:Oper}(ho:o.dst=none)(k:Key)(e0 e:bZ U)(fm:σ.aw k=some e0)(ks:List Key)(ps:List Prop)(lQ:List Nat)(lV:k∉ks)
  (hE:∀bad,(∀k',fP w w' kv kv fp (aL fp k lQ) (ay σ) bad k')->ig E w' F' kv (aL fp k lQ) bad e (kv k) lQ)
  (lZ:∀b,F b->F' b/\w'.heap[b]? =w.heap[b]?)
  (nb:∀b,F' b->F b\/∃k'∈k::ks,(σ.aw k').isSome=true/\b∈fp k')
  (cM:∀k' e,k'≠k->k'∉ks->σ.aw k'=some e->∀b∈fp k',w'.heap[b]? =w.heap[b]?)
  (fc:lQ.Nodup) (y3:∀b∈lQ,¬F' b/\∃k'∈k::ks,(σ.aw k').isSome=true/\b∈fp k')
  (fi:bB (fun b=>pm.W b\/pm.w0.heap.size<=b) w w'):
  aE E pm F' kv (aL fp k lQ) (AM.apply o ⟨none,[],ks,[(k,e)],ps⟩ σ) (a.put o.dst undef) w':=by
 have de:aM o (⟨none,[],ks,[(k,e)],ps⟩:az U)=[]:=rfl
 have dn:cK (⟨none,[],ks,[(k,e)],ps⟩:az U)=[k]:=rfl
 have io:∀k',fP w w' kv kv fp (aL fp k lQ) (ay σ) (ay (AM.apply o ⟨none,[],ks,[(k,e)],ps⟩ σ)) k':=by
  intro k'
  refine⟨rfl,?_⟩
  by_cases hk:k'=k
  ·left
   subst hk
   have:(AM.apply o (⟨none,[],ks,[(k',e)],ps⟩:az U) σ).ah.any (cj k')=true:=gX.2 (by simp[AM.apply])
   simp[ay,this]
  ·by_cases Bf:k'∈ks
   ·left
    simp[ay,Aj o _ σ k' (by rw[de];simp) (by rw[dn];simpa using hk) Bf]
   ·have K4:=Ah o (⟨none,[],ks,[(k,e)],ps⟩:az U) σ k' (by rw[de];simp) (by rw[dn];simpa using hk) Bf
    have si:(AM.apply o (⟨none,[],ks,[(k,e)],ps⟩:az U) σ).ah.any (cj k')=σ.ah.any (cj k'):=by
     rw[B0,gX,gX]
     simp[AM.apply,hk]
    cases hb:ay σ k'
    ·right
     refine⟨rfl,l7 hk,?_⟩
     simp only[ay,wD] at hb
     obtain⟨e',a_⟩:∃e,σ.aw k'=some e:=by
      cases hx:σ.aw k' with
      |none=>rw[hx] at hb;simp at hb
      |some e=>exact⟨e,rfl⟩
     exact cM k' e' hk Bf a_
    ·left
     simp only[ay] at hb⊢
     rw[K4,si];exact hb
 have fy:∀b,(∃k'∈k::ks,(σ.aw k').isSome=true/\b∈fp k')->(pm.W b\/pm.w0.heap.size<=b)/\b<w.heap.size:=by
  rintro b ⟨k',_,hl,hb⟩
  obtain⟨e',a_⟩:=eD.1 hl
  exact(h.bt k' e' b a_ hb).2
 refine h.apply o _ undef (fun x hx=>by rw[ho] at hx;cases hx) ?_ (fun _ _=>rfl) ?_ ?_ lZ ?_ ?_ ?_ ?_ ?_ ?_ (h.upto.trans fi) fi.size
 ·intro x hx;cases hx
 ·intro k' _ hk;rw[dn] at hk;exact l7 (by simpa using hk)
 ·intro k' hk;rw[de] at hk;simp at hk
 ·intro k' e' _ hk eH he b hb;rw[dn] at hk;exact cM k' e' (by simpa using hk) eH he b hb
 ·rintro k' e' (⟨j,_,hj⟩|hk)
  ·simp at hj
  ·simp only[gn,fB] at hk
   obtain⟨rfl,rfl⟩:=hk
   rw[im]
   refine⟨hE _ io,fc,fun b hb=> ?_⟩
   obtain⟨h1,h2⟩:=y3 b hb
   have h3:=fy b h2
   have:=fi.size
   exact⟨h1,h3.1,by omega⟩
 ·intro k' e' b _ hk eH he hb jU
  rw[dn] at hk
  rcases nb b jU with h1|⟨k2,m8,hl,ap⟩
  ·exact(h.bt k' e' b he hb).1 h1
  ·obtain⟨e2,iw⟩:=eD.1 hl
   exact h.apart k' k2 e' e2 b (fun e=>by subst e;rcases dJ.1 m8 with rfl|h;exact hk (by simp);exact eH h) he iw hb ap
 ·intro k1 k' b aX hk aG hb
  rw[de,dn] at hk aG
  simp only[gn,wE,false_or] at hk aG
  subst hk
  rw[im] at hb
  rcases aG with rfl|⟨aG,rb⟩
  ·exact absurd rfl aX
  ·rw[l7 (Ne.symm aX)]
   obtain⟨e',a_⟩:=eD.1 rb
   intro ap
   obtain⟨k2,eH,hl,cn⟩:=(y3 b hb).2
   obtain⟨e2,iw⟩:=eD.1 hl
   exact h.apart k2 k' e2 e' b (fun e=>by subst e;rcases dJ.1 eH with rfl|h;exact aX rfl;exact aG h) iw a_ cn ap
 ·intro b hb
  rcases nb b hb with h1|h1
  ·have:=h.iz b h1;have:=fi.size;omega
  ·have:=(fy b h1).2;have:=fi.size;omega
 ·intro b hb
  rcases nb b hb with h1|h1
  ·exact h.iy b h1
  ·exact .inr (fy b h1).1
theorem w5{P:Program}{t:TypeId}{n g off:Nat}{cur:Array Value}{e:TypeId}{v:Value}(hs:(P.info? t).map (·.size)=some n)(hv:v.cells.size=n)(h1:∀u∈v.cells.toList,u.oneCell'=true)
  (hg:w.heap[g]? =some (.cells cur e (0,0))) (hle:off+n<=cur.size):
  (Instr.storeAt t (.pointer (some ⟨g,off,none⟩)) v).run P w=.ok () (w.setRow g (cur.toList.take off++v.cells.toList++cur.toList.drop (off+n)).toArray):=by
 cases hq:P.info? t with
 |none=>rw[hq] at hs;cases hs
 |some i=>
  rw[hq] at hs
  simp only[nG,bH] at hs
  have io:=run_storeCells_at P g off e v.cells.toList 0 cur w hg (by simp;omega) h1
  simp only[qh,nI] at io
  simp[Instr.storeAt,Instr.sureAddr,storeVar,Go.sizeOf,typeInfo,hq,io,hv]
  omega
theorem dQ.bn{xs:List (AC U)}{vs:List Value}(h:dQ E w F kv fp bad xs vs):∀v∈vs,v.oneCell'=true:=by
 intro v hv
 obtain⟨n,hn,rfl⟩:=nJ hv
 exact(h.2 n (xs[n]'(by rw[h.1];exact hn)) _ (cF _) (cF hn)).1.1
theorem HP(h:aE E pm F kv fp σ a w){o:Oper}(ho:o.dst=none){t:TypeId}{x y:Operand}(gy:o.op=.store t x y){sx:SV U}{yx:AC U}{z:AV U}{n:Nat}{rs:List Key}{r:az U}
  (hx:RS E w F kv fp (ay σ) sx (a.eval x)) (kz:i_ sx=some yx) (hy:RS E w F kv fp (ay σ) (.v z) (a.eval y)) (hs:E.size t=some n) (hn:n=z.cs.length)
  (hr:storeAt (restrict σ.aw rs) σ.ah z yx=some r) (hp:∀p∈r.pre,p) {next:Act->World->Prop} {Q:Exit->Act->World->Prop}
  (A2:∀F kv fp a' w',aE E pm F kv fp (AM.apply o r σ) a' w'->next a' w'):o.wp E.P a w next Q:=by
 have mr:=du hx kz
 obtain⟨mn,nN⟩:=tz hy
 have exec:∀{w1},(Instr.storeAt t (a.eval x) (a.eval y)).run E.P w=.ok () w1->(execOp a.eval o).run E.P w=.ok .skip w1:=by
  intro w1 hr
  unfold execOp;simp only[gy]
  rw[Sem.run_bind,hr];rfl
 unfold storeAt at hr
 split at hr
 ·rename_i k off
  split at hr
  ·rename_i cs he
   have a_:=cQ he
   cases hb:Nat.ble (off+z.cs.length) cs.length<;>simp only[hb,cond_false,cond_true] at hr
   ·cases hr
   ·have hle:=qj hb
    cases hr
    obtain⟨b,h1,h2⟩:=aA mr rfl
    obtain⟨b',cur,e,h3,h4,h5,h6⟩:=h.aJ k _ a_
    rw[h1] at h3;cases h3
    have ck:cs.length=cur.size:=by simpa using h6.1
    have cx:=w5 (P:=E.P) (n:=n) (off:=off) (v:=a.eval y) hs (by rw[nN];exact hn.symm) mn.bn h4 (by omega)
    rw[<-h2] at cx
    refine uO (exec cx) (A2 F kv (aL fp k [b]) _ _ (h.wV ho k _ _ a_ [] [] [b] (by simp) ?_ ?_ ?_ ?_ ?_ ?_ ?_))
    ·intro bad io
     refine⟨b,_,e,h1,setRow_heap w b cur _ _ _ h4,rfl,?_⟩
     have jU:∀b',F b'->F b'/\(w.setRow b (cur.toList.take off++(a.eval y).cells.toList++cur.toList.drop (off+n)).toArray).heap[b']? =w.heap[b']? :=fun b' ap=>
      ⟨ap,setRow_other w b b' _ (fun e=>(h.bt k _ b a_ (by rw[h5];simp)).1 (e▸ap))⟩
     have:=(((h6.take off).append mn).append (h6.drop (off+n))).move (bad':=bad) (kv':=kv) (fp':=aL fp k [b]) (fun _ _ k' _=>io k') jU
     rw[hn] at this⊢
     simpa using this
    ·intro b' ap;exact⟨ap,setRow_other w b b' _ (fun e=>(h.bt k _ b a_ (by rw[h5];simp)).1 (e▸ap))⟩
    ·intro b' ap;exact .inl ap
    ·intro k' e' hk _ iw b' ap
     exact setRow_other w b b' _ (fun e=>h.apart k' k _ _ b' hk iw a_ ap (by rw[h5,e];simp))
    ·simp
    ·intro b' ap
     rw[gn.1 ap]
     exact⟨(h.bt k _ b a_ (by rw[h5];simp)).1,k,by simp,by simp[a_],by rw[h5];simp⟩
    ·exact⟨rfl,rfl,rfl,by simp,fun b' _ qW=>setRow_other w b b' _ (fun e=>qW (by rw[e];exact(h.bt k _ b a_ (by rw[h5];simp)).2.1))⟩
  ·cases hr
 ·rename_i k p i wd off
  split at hr
  ·rename_i x0 d he
   have a_:=cQ he
   cases ck:bw (restrict σ.aw rs) σ.ah k p<;>simp only[ck,cond_false,cond_true] at hr
   ·cases hr
   ·split at hr
    ·rename_i ps b hw
     split at hr
     ·rename_i qs ds ks d' gY
      split at hr
      ·rename_i x' ze
       cases eK:(Nat.beq wd (U.wd b.τ)&&Nat.ble (off+ds.length) (U.wd b.τ)&&distinct (k::ks)&&((d&&d')||p.isEmpty))<;>simp only[eK,cond_false,cond_true] at hr
       ·cases hr
       ·cases hr
        simp only[c9] at eK
        obtain⟨⟨⟨c1,c2⟩,c3⟩,c4⟩:=eK
        have je:=eI c1
        subst je
        have hle:=qj c2
        have lT:=iL.1 c3
        have lV:k∉ks:=(gx.1 lT).1
        have hi:i<b.xs.length:=hp _ (by simp)
        have r_:∀q∈ps,q:=fun q hq=>hp q (by simp[hq])
        obtain⟨t1,t2,t3,t4⟩:=rO h gY (fun q hq=>hp q (by simp[hq])) mn (gx.1 lT).2
        obtain⟨bb,oo,nn,cc,eZ,hv⟩:=aA mr (oW ck he)
        have eG:aZ E w F d x0 (kv k) (fp k):=h.aJ k _ a_
        have fc:=h.nodup k _ a_
        have K6:ds.length=n:=by rw[t1,hn]
        have Cj:(a.eval y).cells.toList.length=ds.length:=by simp[nN,t1]
        have node:∀{g cap:Nat}{cur:Array Value}{vs:List Value},(.slice (some ⟨bb,oo,none⟩) nn cc:Value)=.slice (some ⟨g,0,none⟩) b.xs.length cap->w.heap[g]? =some (.cells cur (E.tid b.τ) (0,0))->b.xs.length<=cap->
          cur.size=cap*U.wd b.τ->cur.toList.take (b.xs.length*U.wd b.τ)=vs->
          (Instr.storeAt t (a.eval x) (a.eval y)).run E.P w=.ok () (w.setRow g (cur.toList.take (i*U.wd b.τ+off)++(a.eval y).cells.toList++cur.toList.drop (i*U.wd b.τ+off+n)).toArray)/\
          (cur.toList.take (i*U.wd b.τ+off)++(a.eval y).cells.toList++cur.toList.drop (i*U.wd b.τ+off+n)).toArray.size=cap*U.wd b.τ/\
          (cur.toList.take (i*U.wd b.τ+off)++(a.eval y).cells.toList++cur.toList.drop (i*U.wd b.τ+off+n)).toArray.toList.take (b.xs.length*U.wd b.τ)=
           vs.take (i*U.wd b.τ+off)++(a.eval y).cells.toList++vs.drop (i*U.wd b.τ+off+(a.eval y).cells.toList.length):=by
         intro g cap cur vs e1 e2 e3 e4 e5
         simp only[Value.slice.injEq,bH,Addr.mk.injEq,and_true] at e1
         obtain⟨⟨rfl,rfl⟩,_,_⟩:=e1
         have hN:i*U.wd b.τ+U.wd b.τ<=b.xs.length*U.wd b.τ:=by
          have:(i+1)*U.wd b.τ<=b.xs.length*U.wd b.τ:=kS _ hi
          rw[j8,uA] at this
          exact this
         have kx:b.xs.length*U.wd b.τ<=cap*U.wd b.τ:=kS _ e3
         have cx:=w5 (P:=E.P) (n:=n) (off:=i*U.wd b.τ+off) (v:=a.eval y) hs (by rw[nN];exact hn.symm) mn.bn e2 (by omega)
         refine⟨by rw[hv,kO];exact cx,by simp only[yt,kR,jw,n0,nI,nN,<-hn];omega,?_⟩
         subst e5
         refine wR fun m=> ?_
         rw[fg]
         by_cases hm:m<b.xs.length*U.wd b.τ
         ·rw[if_pos hm]
          by_cases h1:m<i*U.wd b.τ+off
          ·rw[kP,j7 (by simp;omega),kP,j7 (by simp;omega),fg,if_pos h1,fg,if_pos h1,fg,if_pos hm]
          ·by_cases h2:m<i*U.wd b.τ+off+n
           ·rw[j7 (by simp[nN,<-hn];omega),kT (by simp;omega),j7 (by simp[nN,<-hn];omega),kT (by simp;omega)]
            congr 1;simp;omega
           ·rw[kT (by simp[nN,<-hn];omega),kT (by simp[nN,<-hn];omega),nH,nH,fg,if_pos (by simp[nN,<-hn];omega)]
            congr 1;simp[nN,<-hn];omega
         ·rw[if_neg hm,fb]
          simp only[kR,jw,n0,nI,nN,<-hn]
          omega
        have pj:∀b'∈k::ks,(σ.aw b').isSome=true:=fun k' aG=>by
         rcases dJ.1 aG with rfl|aG
         ·simp[a_]
         ·exact t2 k' aG
        have na:∀k'∈k::ks,∀b'∈fp k',¬F b'/\(pm.W b'\/pm.w0.heap.size<=b'):=fun k' aG b' ap=>by
         obtain⟨e,he⟩:=eD.1 (pj k' aG)
         exact⟨(h.bt k' e b' he ap).1,(h.bt k' e b' he ap).2.1⟩
        have sV:∀k'∈ks,∀b'∈fp k',b'∉fp k:=fun k' aG b' ap il=>by
         obtain⟨e,he⟩:=eD.1 (t2 k' aG)
         exact h.apart k' k _ _ b' (fun e=>lV (e▸aG)) he a_ ap il
        have cS:∀{g:Nat},g∈fp k->∀(cells:Array Value) k' e,k'≠k->k'∉ks->σ.aw k'=some e->∀b'∈fp k',(w.setRow g cells).heap[b']? =w.heap[b']? :=fun hg cells k' e' hk _ iw b' ap=>
         setRow_other w _ b' _ (fun e=>h.apart k' k _ _ b' hk iw a_ ap (e▸hg))
        have EJ:∀{g:Nat},g∈fp k->∀(cells:Array Value),bB (fun b=>pm.W b\/pm.w0.heap.size<=b) w (w.setRow g cells):=fun hg cells=>
         ⟨rfl,rfl,rfl,by simp,fun b' _ qW=>setRow_other w _ b' _ (fun e=>qW (e▸(na k (by simp) _ hg).2))⟩
        cases dD:(d&&d') with
        |true=>
         simp only[c9] at dD
         obtain⟨rfl,rfl⟩:=dD
         obtain⟨gl,Pl,Pk,Pj,NG⟩:=t3 rfl
         obtain⟨vb,lb,pre,post,b',f1,f2,f3,f4,f5⟩:=eG.focus fc hw r_ ze
         have ux:vb=.slice (some ⟨bb,oo,none⟩) nn cc:=f2.unique eZ
         rcases f3.rows with⟨h3,_⟩|⟨g,cap,cur,vs,fl,h3,h4,h5,h6,h7,h8,h9,jV⟩
         ·rw[h3] at hi;simp at hi
         ·obtain⟨n1,n2,n3⟩:=node (ux▸h3) h4 h5 h7 h8
          rw[zR] at f1
          split at f1
          ·rename_i yy sj
           cases f1
           have mY:=h9.patch hi sj hle Cj Pl Pk
           have vL:g∈fp k:=by rw[f4,jV];simp
           have KN:(g::fl.flatten).Nodup:=by
            rw[f4,jV] at fc
            exact(gz.1 (gz.1 fc).1).2.1
           have E9:∀b'∈gl.flatten,b'∉fp k:=fun b' ap=>by
            obtain⟨k',aG,ap⟩:=NG b' ap
            exact sV k' aG b' ap
           have eE:((fl.take (i*U.wd b.τ+off)).flatten++(fl.drop (i*U.wd b.τ+off+gl.length)).flatten).Sublist fl.flatten:=by
            have h1:fl.flatten=(fl.take (i*U.wd b.τ+off)).flatten++(fl.drop (i*U.wd b.τ+off)).flatten:=by rw[<-qb,zu]
            have h2:(fl.drop (i*U.wd b.τ+off)).flatten=((fl.drop (i*U.wd b.τ+off)).take gl.length).flatten++((fl.drop (i*U.wd b.τ+off)).drop gl.length).flatten:=by rw[<-qb,zu]
            rw[h1,h2,List.drop_drop]
            exact List.Sublist.append_left (Hj _ _) _
           have za:(fl.take (i*U.wd b.τ+off)++gl++fl.drop (i*U.wd b.τ+off+gl.length)).flatten=(fl.take (i*U.wd b.τ+off)).flatten++gl.flatten++(fl.drop (i*U.wd b.τ+off+gl.length)).flatten:=by
            simp[qb]
           have vD:∀c∈(fl.take (i*U.wd b.τ+off)++gl++fl.drop (i*U.wd b.τ+off+gl.length)).flatten,c∈gl.flatten\/c∈fl.flatten:=by
            intro c hc
            rw[za,cY,cY] at hc
            rcases hc with(hc|hc)|hc
            ·exact .inr (eE.subset (by simp[hc]))
            ·exact .inl hc
            ·exact .inr (eE.subset (fD _ hc))
           have KX:∀c∈(fl.take (i*U.wd b.τ+off)++gl++fl.drop (i*U.wd b.τ+off+gl.length)).flatten,c≠g:=by
            intro c hc e
            rcases vD c hc with hc|hc
            ·exact E9 c hc (e▸vL)
            ·exact(gx.1 KN).1 (e▸hc)
           have pg:=aZ.er (E:=E) (w:=w.setRow g (cur.toList.take (i*U.wd b.τ+off)++(a.eval y).cells.toList++cur.toList.drop (i*U.wd b.τ+off+n)).toArray) (F:=F) (setRow_heap w g cur _ _ _ h4) (by simpa using h5) h6 n2
            (by rw[th];exact n3) (mY.ij (fun c hc=>setRow_other w g c _ (KX c hc)))
           rw[th] at pg
           have EW:∀c∈pre++post,c≠g:=by
            intro c hc e
            subst e
            rw[f4,jV] at fc
            have EZ:=gz.1 fc
            have KG:=gz.1 EZ.1
            rcases cY.1 hc with hc|hc
            ·exact KG.2.2 c hc c (by simp) rfl
            ·exact EZ.2.2 c (by simp) c hc rfl
           have lW:=f5 (w.setRow g (cur.toList.take (i*U.wd b.τ+off)++(a.eval y).cells.toList++cur.toList.drop (i*U.wd b.τ+off+n)).toArray) F _ rfl (by rw[h3];exact pg) (fun c hc=>setRow_other w g c _ (EW c hc))
           refine uO (exec n1) (A2 F kv (aL fp k _) _ _ (h.wV ho k _ _ a_ ks _ _ lV (fun bad io=>lW) ?_ (fun b' ap=> .inl ap) (cS vL _) ?_ ?_ (EJ vL _)))
           ·intro b' ap;exact⟨ap,setRow_other w g b' _ (fun e=>(na k (by simp) g vL).1 (e▸ap))⟩
           ·have Fm:(pre++(g::((fl.take (i*U.wd b.τ+off)).flatten++(fl.drop (i*U.wd b.τ+off+gl.length)).flatten))++post).Nodup:=by
             rw[f4,jV] at fc
             exact(List.Sublist.append_right (List.Sublist.append_left (List.Sublist.cons_cons _ eE) _) _).nodup fc
            have hG:(gl.flatten++(pre++(g::((fl.take (i*U.wd b.τ+off)).flatten++(fl.drop (i*U.wd b.τ+off+gl.length)).flatten))++post)).Nodup:=by
             refine gz.2 ⟨Pj,Fm,fun c hc c' ec e=> ?_⟩
             subst e
             refine E9 c hc ?_
             rw[f4,jV]
             simp only[cY,dJ] at ec⊢
             rcases ec with(ec|ec|ec|ec)|ec
             ·exact .inl (.inl ec)
             ·exact .inl (.inr (.inl ec))
             ·exact .inl (.inr (.inr (eE.subset (by simp[ec]))))
             ·exact .inl (.inr (.inr (eE.subset (fD _ ec))))
             ·exact .inr ec
            rw[za]
            refine(List.Perm.nodup_iff ?_).2 hG
            refine List.perm_iff_count.2 fun c=> ?_
            simp only[List.count_append,List.count_cons]
            omega
           ·intro b' ap
            simp only[cY,dJ] at ap
            have vW:b'∈fp k\/b'∈gl.flatten:=by
             rcases ap with(ap|ap|ap)|ap
             ·left;rw[f4];simp[ap]
             ·left;rw[ap];exact vL
             ·rcases vD b' ap with ap|ap
              ·exact .inr ap
              ·left;rw[f4,jV];simp[ap]
             ·left;rw[f4];simp[ap]
            rcases vW with ap|ap
            ·exact⟨(na k (by simp) b' ap).1,k,by simp,by simp[a_],ap⟩
            ·obtain⟨k',aG,ap⟩:=NG b' ap
             exact⟨(na k' (by simp[aG]) b' ap).1,k',by simp[aG],t2 k' aG,ap⟩
          ·cases f1
        |false=>
         rw[dD,sA,List.isEmpty_iff] at c4
         subst c4
         simp only[walk,bH,fB] at hw
         obtain⟨_,rfl⟩:=hw
         simp only[Cr] at ze
         have ux:kv k=.slice (some ⟨bb,oo,none⟩) nn cc:=Eq.symm eZ
         rcases eG.rows with⟨h3,_⟩|⟨g,cap,cur,vs,fl,h3,h4,h5,h6,h7,h8,h9,jV⟩
         ·rw[h3] at hi;simp at hi
         ·obtain⟨n1,n2,n3⟩:=node (ux▸h3) h4 h5 h7 h8
          rw[zR] at ze
          split at ze
          ·rename_i yy sj
           cases ze
           have vL:g∈fp k:=by rw[jV];simp
           have jU:∀c,(F c\/c∈fl.flatten\/∃k'∈ks,c∈fp k')->c≠g:=by
            rintro c (hc|hc|⟨k',aG,hc⟩) rfl
            ·exact(na k (by simp) c vL).1 hc
            ·rw[jV] at fc;exact(gx.1 fc).1 hc
            ·exact sV k' aG c hc vL
           have AP:=h9.dy (F':=fun c=>F c\/c∈fl.flatten\/∃k'∈ks,c∈fp k') (fun c hc=> .inl hc) (fun c hc=> .inr (.inl hc))
           have mY:=AP.patch hi sj hle (us:=(a.eval y).cells.toList) (gl:=List.replicate ds.length []) Cj (by simp) (fun m c hc=>by
            rw[oT];exact(t4 m c hc).bx (fun c hc=>hc.imp id .inr))
           have bQ:=mY.bu (w':=w.setRow g (cur.toList.take (i*U.wd x0.τ+off)++(a.eval y).cells.toList++cur.toList.drop (i*U.wd x0.τ+off+n)).toArray)
            (F':=fun c=>F c\/c∈fl.flatten\/∃k'∈ks,c∈fp k') (fun c hc=>⟨hc,setRow_other w g c _ (jU c hc)⟩) (by rw[mY.rj];simp)
           have pg:=aZ.er (E:=E) (setRow_heap w g cur _ _ _ h4) (by simpa using h5) h6 n2 (by rw[th];exact n3) bQ
           rw[mY.rj,th] at pg
           refine uO (exec n1) (A2 (fun c=>F c\/c∈fl.flatten\/∃k'∈ks,c∈fp k') kv (aL fp k _) _ _ (h.wV ho k _ _ a_ ks _ [g] lV (fun bad io=>by rw[h3,dD];exact pg) ?_ ?_ (cS vL _) (by simp) ?_ (EJ vL _)))
           ·intro b' ap;exact⟨.inl ap,setRow_other w g b' _ (jU b' (.inl ap))⟩
           ·rintro c (hc|hc|⟨k',aG,hc⟩)
            ·exact .inl hc
            ·exact .inr ⟨k,by simp,by simp[a_],by rw[jV];simp[hc]⟩
            ·exact .inr ⟨k',by simp[aG],t2 k' aG,hc⟩
           ·intro b' ap
            rw[gn.1 ap]
            exact⟨fun hc=>jU g hc rfl,k,by simp,by simp[a_],vL⟩
          ·cases ze
      ·cases hr
     ·cases hr
    ·cases hr
  ·cases hr
 ·cases hr
end AM
